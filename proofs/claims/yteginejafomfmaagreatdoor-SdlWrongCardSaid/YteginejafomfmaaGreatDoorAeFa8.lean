/- Code, functions, calls: what the quick evaluator answers, the evaluator answers. No condition. -/
import Derived.Test.YteginejafomfmaaGreatDoorAeFa7
set_option linter.unusedVariables false
set_option linter.unusedSimpArgs false
namespace Go.Ae
open Go
noncomputable section

def kont (ex : Ex) (kn : KS) (kx : KX) (kr : KS) (fr : FR) (h : Hp) : Out := match ex with
  | .normal => kn fr h
  | .exit id => kx id fr h
  | .ret => kr fr h
  | .goto _ => .bad 0
def COk (P : Program) (G : Nat → Option AVal) (H : Hook) (loc : Nat) (c : Code) (cf : CF) : Prop :=
  ∀ call, CallGood P G H call → ∀ f fr h kn kx kr, FrRel loc f fr → Good (cf.run ⟨P, G, H, call⟩ fr h kn kx kr) →
    ∃ M ex f' h' fr', evalCode P G H M c f h = some ⟨ex, f', h'⟩ ∧ FrRel loc f' fr' ∧ cf.run ⟨P, G, H, call⟩ fr h kn kx kr = kont ex kn kx kr fr' h'

section
variable {P : Program} {G : Nat → Option AVal} {H : Hook} {loc : Nat}

theorem cBad_ok {c : Code} (w : Nat) : COk P G H loc c (cBad w) := fun call hc f fr h kn kx kr hr hg => (not_good w hg).elim
theorem cSeq_ok {a b : Code} {x y : CF} (ha : COk P G H loc a x) (hb : COk P G H loc b y) : COk P G H loc (.seq a b) (cSeq x y) := by
  intro call hc f fr h kn kx kr hr hg
  obtain ⟨M, ex, f1, h1, fr1, e1, e2, e3⟩ := ha call hc f fr h (fun fr h => y.run ⟨P, G, H, call⟩ fr h kn kx kr) kx kr hr hg
  have e3' : (cSeq x y).run ⟨P, G, H, call⟩ fr h kn kx kr = kont ex (fun fr h => y.run ⟨P, G, H, call⟩ fr h kn kx kr) kx kr fr1 h1 := e3
  rw [e3'] at hg ⊢
  cases ex with
  | normal =>
    obtain ⟨M', ex', f2, h2, fr2, q1, q2, q3⟩ := hb call hc f1 fr1 h1 kn kx kr e2 hg
    refine ⟨Nat.max M M' + 1, ex', f2, h2, fr2, ?_, q2, q3⟩
    unfold evalCode
    simp only [(mono P G H (Nat.le_max_left M M')).code e1]
    exact (mono P G H (Nat.le_max_right M M')).code q1
  | goto l => exact (not_good _ hg).elim
  | exit id => exact ⟨M + 1, .exit id, f1, h1, fr1, by unfold evalCode; simp only [e1], e2, rfl⟩
  | ret => exact ⟨M + 1, .ret, f1, h1, fr1, by unfold evalCode; simp only [e1], e2, rfl⟩

/-- A region's closure, ending with a value, and what is made of it. -/
theorem region_ok {id : Nat} {ops : Array Oper} {fin : FinT} {call : CallF} (hc : CallGood P G H call) {f : T AVal} {fr : FR} {h : Hp} {k : KF} (hr : FrRel loc f fr) (hg : Good ((compL loc P ops.toList fin ops.toList 0 .init).run ⟨P, G, H, call⟩ fr env0 h k)) :
    ∃ M f' h' n' cs' fr' L', evalCode P G H M (.region id ops false) f h = some ⟨.normal, f', h'⟩ ∧ Inv loc n' cs' f' fr' L' ∧
      (compL loc P ops.toList fin ops.toList 0 .init).run ⟨P, G, H, call⟩ fr env0 h k = (fin n' cs').run ⟨P, G, H, call⟩ fr' L' h' k := by
  obtain ⟨N, f', h', n', cs', fr', L', e1, e2, e3⟩ := compL_ok P G H loc ops.toList fin ops.toList 0 .init call hc f fr env0 h k (Inv.start hr) hg
  exact ⟨N + 1, f', h', n', cs', fr', L', by unfold evalCode; simp only [e1], e2, e3⟩
theorem regionQ_ok {id : Nat} {ops : Array Oper} {fin : FinT} {e : EV} (he : e = ⟨P, G, H, e.call⟩) {f : T AVal} {fr : FR} {h : Hp} {k : KF} (hr : FrRel loc f fr) (hq : ops.toList.all (quietO P) = true) (ho : orderly P ops.toList = true)
    (hg : Good ((compL loc P ops.toList fin ops.toList 0 .init).run e.quiet fr env0 (h.bump ops.toList.length) k)) :
    ∃ M f' h' n' cs' fr' L', evalCode P G H M (.region id ops true) f h = some ⟨.normal, f', h'⟩ ∧ Inv loc n' cs' f' fr' L' ∧
      (compL loc P ops.toList fin ops.toList 0 .init).run e.quiet fr env0 (h.bump ops.toList.length) k = (fin n' cs').run e.quiet fr' L' h' k := by
  have eq : e.quiet = ⟨P, G, quietH H, fun _ _ _ _ _ => .bad 46⟩ := by rw [he]; rfl
  rw [eq] at hg ⊢
  obtain ⟨N, f', h', n', cs', fr', L', e1, e2, e3⟩ := compL_ok P G (quietH H) loc ops.toList fin ops.toList 0 .init _ (callGood_bad 46) f fr env0 (h.bump ops.toList.length) k (Inv.start hr) hg
  obtain ⟨M, hM⟩ := quiet_code (H := H) (id := id) hq ho e1
  exact ⟨M, f', h', n', cs', fr', L', hM, e2, e3⟩
theorem drawC_ok {id : Nat} {ops : Array Oper} (ho : orderly P ops.toList = true) : COk P G H loc (.region id ops true) (drawC loc P ops.toList) := by
  unfold drawC
  cases hcl : clear loc (slotsR ops.toList) && clear loc (dstsR ops.toList) with
  | false => exact cBad_ok _
  | true =>
    intro call hc f fr h kn kx kr hr hg
    obtain ⟨M, f', fr', h', e1, e2, e3⟩ := draw_code (id := id) (k := kn) hc hr ho hcl hg
    exact ⟨M, .normal, f', h', fr', e1, e2, e3⟩
theorem compR_ok {id : Nat} {ops : Array Oper} {d : Bool} (ho : ordC P (.region id ops d) = true) : COk P G H loc (.region id ops d) (compR loc P ops.toList d) := by
  cases d with
  | false =>
    intro call hc f fr h kn kx kr hr hg
    obtain ⟨M, f', h', n', cs', fr', L', e1, e2, e3⟩ := region_ok (id := id) (fin := finNil) (k := fun fr _ h => kn fr h) hc hr hg
    exact ⟨M, .normal, f', h', fr', e1, e2.nl, e3⟩
  | true =>
    have ho' : orderly P ops.toList = true := ho
    unfold compR
    cases hq : ops.toList.all (quietO P) with
    | false => exact drawC_ok ho'
    | true =>
      intro call hc f fr h kn kx kr hr hg
      obtain ⟨M, f', h', n', cs', fr', L', e1, e2, e3⟩ := regionQ_ok (id := id) (fin := finNil) (e := ⟨P, G, H, call⟩) (k := fun fr _ h => kn fr h) rfl hr hq ho' hg
      exact ⟨M, .normal, f', h', fr', e1, e2.nl, e3⟩

/-- A test behind a region. -/
theorem test_ok {r : Code} {x : Operand} {p q : Code} {a b : CF} (hp : COk P G H loc p a) (hq : COk P G H loc q b) {call : CallF} (hc : CallGood P G H call) {f f' : T AVal} {h h' : Hp} {fr' : FR} {kn : KS} {kx : KX} {kr : KS} {M n' : Nat} {cs' : CS} {L' : EnvT n'} {e : EV}
    (e1 : evalCode P G H M r f h = some ⟨.normal, f', h'⟩) (inv : Inv loc n' cs' f' fr' L')
    (hg : Good ((finX loc x n' cs').run e fr' L' h' (fun fr v h => ifB (Nat.beq v.tag 1) (Bool.rec (b.run ⟨P, G, H, call⟩ fr h kn kx kr) (a.run ⟨P, G, H, call⟩ fr h kn kx kr) v.t) (.bad 40)))) :
    ∃ M ex f2 h2 fr2, evalCode P G H M (.seq r (.cond x p q)) f h = some ⟨ex, f2, h2⟩ ∧ FrRel loc f2 fr2 ∧
      (finX loc x n' cs').run e fr' L' h' (fun fr v h => ifB (Nat.beq v.tag 1) (Bool.rec (b.run ⟨P, G, H, call⟩ fr h kn kx kr) (a.run ⟨P, G, H, call⟩ fr h kn kx kr) v.t) (.bad 40)) = kont ex kn kx kr fr2 h2 := by
  unfold finX at hg ⊢
  rcases res_cases (loc := loc) (cs := cs') (gs := []) x (oBad 96 : OF n') oFin with hb | ⟨y, hy, hb⟩
  · rw [hb] at hg; exact (not_good _ hg).elim
  · rw [hb] at hg ⊢
    obtain ⟨v, hv, hye⟩ := hy f' fr' L' inv (fun u hu => by cases hu)
    have hrun : (oFin y).run e fr' L' h' (fun fr v h => ifB (Nat.beq v.tag 1) (Bool.rec (b.run ⟨P, G, H, call⟩ fr h kn kx kr) (a.run ⟨P, G, H, call⟩ fr h kn kx kr) v.t) (.bad 40)) =
        ifB (Nat.beq (V.of v).tag 1) (Bool.rec (b.run ⟨P, G, H, call⟩ fr' h' kn kx kr) (a.run ⟨P, G, H, call⟩ fr' h' kn kx kr) (V.of v).t) (.bad 40) := by rw [← hye]; rfl
    rw [hrun] at hg ⊢
    cases ht : Nat.beq (V.of v).tag 1 with
    | false => rw [ifB_false ht] at hg; exact (not_good _ hg).elim
    | true =>
      rw [ifB_true ht] at hg; rw [ifB_true rfl]
      have hvb := tag_bool (Nat.eq_of_beq_eq_true ht)
      cases htt : (V.of v).t with
      | true =>
        rw [htt] at hg hvb
        obtain ⟨M', ex, f2, h2, fr2, q1, q2, q3⟩ := hp call hc f' fr' h' kn kx kr inv.nl hg
        refine ⟨Nat.max M (M' + 1) + 1, ex, f2, h2, fr2, ?_, q2, q3⟩
        unfold evalCode
        simp only [(mono P G H (Nat.le_max_left M (M' + 1))).code e1]
        refine (mono P G H (Nat.le_max_right M (M' + 1))).code ?_
        unfold evalCode
        simp only [hv, hvb]
        exact q1
      | false =>
        rw [htt] at hg hvb
        obtain ⟨M', ex, f2, h2, fr2, q1, q2, q3⟩ := hq call hc f' fr' h' kn kx kr inv.nl hg
        refine ⟨Nat.max M (M' + 1) + 1, ex, f2, h2, fr2, ?_, q2, q3⟩
        unfold evalCode
        simp only [(mono P G H (Nat.le_max_left M (M' + 1))).code e1]
        refine (mono P G H (Nat.le_max_right M (M' + 1))).code ?_
        unfold evalCode
        simp only [hv, hvb]
        exact q1
theorem condC_ok {x : Operand} {p q : Code} {a b : CF} (hp : COk P G H loc p a) (hq : COk P G H loc q b) : COk P G H loc (.cond x p q) (condC loc x a b) := by
  unfold condC
  rcases res_cases (loc := loc) (cs := CS.init) (gs := []) (n := 0) x (cBad 98) (fun y => cTest (oFin y) a b) with hb | ⟨y, hy, hb⟩
  · rw [hb]; exact cBad_ok _
  · rw [hb]
    intro call hc f fr h kn kx kr hr hg
    obtain ⟨v, hv, hye⟩ := hy f fr env0 (Inv.start hr) (fun u hu => by cases hu)
    have hrun : (cTest (oFin y) a b).run ⟨P, G, H, call⟩ fr h kn kx kr =
        ifB (Nat.beq (V.of v).tag 1) (Bool.rec (b.run ⟨P, G, H, call⟩ fr h kn kx kr) (a.run ⟨P, G, H, call⟩ fr h kn kx kr) (V.of v).t) (.bad 40) := by rw [← hye]; rfl
    rw [hrun] at hg ⊢
    cases ht : Nat.beq (V.of v).tag 1 with
    | false => rw [ifB_false ht] at hg; exact (not_good _ hg).elim
    | true =>
      rw [ifB_true ht] at hg; rw [ifB_true rfl]
      have hvb := tag_bool (Nat.eq_of_beq_eq_true ht)
      cases htt : (V.of v).t with
      | true =>
        rw [htt] at hg hvb
        obtain ⟨M', ex, f2, h2, fr2, q1, q2, q3⟩ := hp call hc f fr h kn kx kr hr hg
        exact ⟨M' + 1, ex, f2, h2, fr2, by unfold evalCode; simp only [hv, hvb]; exact q1, q2, q3⟩
      | false =>
        rw [htt] at hg hvb
        obtain ⟨M', ex, f2, h2, fr2, q1, q2, q3⟩ := hq call hc f fr h kn kx kr hr hg
        exact ⟨M' + 1, ex, f2, h2, fr2, by unfold evalCode; simp only [hv, hvb]; exact q1, q2, q3⟩
theorem compT_ok {id : Nat} {ops : Array Oper} {d : Bool} {x : Operand} {p q : Code} {a b : CF} (ho : ordC P (.region id ops d) = true) (hp : COk P G H loc p a) (hq : COk P G H loc q b) :
    COk P G H loc (.seq (.region id ops d) (.cond x p q)) (compT loc P ops.toList d x a b) := by
  cases d with
  | false =>
    intro call hc f fr h kn kx kr hr hg
    have hg' : Good ((compL loc P ops.toList (finX loc x) ops.toList 0 .init).run ⟨P, G, H, call⟩ fr env0 h (fun fr v h => ifB (Nat.beq v.tag 1) (Bool.rec (b.run ⟨P, G, H, call⟩ fr h kn kx kr) (a.run ⟨P, G, H, call⟩ fr h kn kx kr) v.t) (.bad 40))) := hg
    obtain ⟨M, f', h', n', cs', fr', L', e1, e2, e3⟩ := region_ok (id := id) (fin := finX loc x) hc hr hg'
    have e3' : (compT loc P ops.toList false x a b).run ⟨P, G, H, call⟩ fr h kn kx kr = _ := e3
    rw [e3'] at hg ⊢
    exact test_ok hp hq hc e1 e2 hg
  | true =>
    have ho' : orderly P ops.toList = true := ho
    unfold compT
    cases hqq : ops.toList.all (quietO P) with
    | false => exact cSeq_ok (drawC_ok ho') (condC_ok hp hq)
    | true =>
      intro call hc f fr h kn kx kr hr hg
      have hg' : Good ((compL loc P ops.toList (finX loc x) ops.toList 0 .init).run (EV.quiet ⟨P, G, H, call⟩) fr env0 (h.bump ops.toList.length) (fun fr v h => ifB (Nat.beq v.tag 1) (Bool.rec (b.run ⟨P, G, H, call⟩ fr h kn kx kr) (a.run ⟨P, G, H, call⟩ fr h kn kx kr) v.t) (.bad 40))) := by
        simp only [hqq] at hg
        exact hg
      obtain ⟨M, f', h', n', cs', fr', L', e1, e2, e3⟩ := regionQ_ok (id := id) (fin := finX loc x) (e := ⟨P, G, H, call⟩) rfl hr hqq ho' hg'
      have e3' : (cTestQ ops.toList.length (compL loc P ops.toList (finX loc x) ops.toList 0 .init) a b).run ⟨P, G, H, call⟩ fr h kn kx kr = _ := e3
      have hgoal : ∀ z : Out, (cTestQ ops.toList.length (compL loc P ops.toList (finX loc x) ops.toList 0 .init) a b).run ⟨P, G, H, call⟩ fr h kn kx kr = z → Good z →
          (∃ M ex f2 h2 fr2, evalCode P G H M (.seq (.region id ops true) (.cond x p q)) f h = some ⟨ex, f2, h2⟩ ∧ FrRel loc f2 fr2 ∧ z = kont ex kn kx kr fr2 h2) →
          ∃ M ex f2 h2 fr2, evalCode P G H M (.seq (.region id ops true) (.cond x p q)) f h = some ⟨ex, f2, h2⟩ ∧ FrRel loc f2 fr2 ∧
            (cTestQ ops.toList.length (compL loc P ops.toList (finX loc x) ops.toList 0 .init) a b).run ⟨P, G, H, call⟩ fr h kn kx kr = kont ex kn kx kr fr2 h2 := by
        intro z hz _ hh; rw [hz]; exact hh
      rw [e3] at hg'
      exact hgoal _ e3' hg' (test_ok hp hq hc e1 e2 hg')
theorem seq_assoc {r c d : Code} {z : CF} (h : COk P G H loc (.seq (.seq r c) d) z) : COk P G H loc (.seq r (.seq c d)) z := by
  intro call hc f fr h' kn kx kr hr hg
  obtain ⟨M, ex, f2, h2, fr2, q1, q2, q3⟩ := h call hc f fr h' kn kx kr hr hg
  refine ⟨M + 1, ex, f2, h2, fr2, ?_, q2, q3⟩
  cases M with
  | zero => simp [evalCode] at q1
  | succ M =>
    unfold evalCode at q1
    simp only at q1
    cases M with
    | zero => simp [evalCode] at q1
    | succ M =>
      -- the inner run
      cases hi : evalCode P G H (M + 1) (.seq r c) f h' with
      | none => rw [hi] at q1; cases q1
      | some ri =>
        rw [hi] at q1
        unfold evalCode at hi
        simp only at hi
        unfold evalCode
        simp only
        cases hri : evalCode P G H M r f h' with
        | none => rw [hri] at hi; cases hi
        | some rr =>
          rw [hri] at hi
          have m1 := (mono P G H (Nat.le_add_right M 2)).code hri
          rw [m1]
          obtain ⟨er, fr1, h1⟩ := rr
          cases er with
          | normal =>
            simp only at hi ⊢
            unfold evalCode
            simp only
            have m2 := (mono P G H (Nat.le_succ M)).code hi
            rw [m2]
            exact q1
          | _ =>
            simp only [Option.some.injEq] at hi ⊢
            subst hi
            simpa using q1
theorem cBlock_ok {id : Nat} {b : Code} {x : CF} (hb : COk P G H loc b x) : COk P G H loc (.block id b) (cBlock id x) := by
  intro call hc f fr h kn kx kr hr hg
  obtain ⟨M, ex, f1, h1, fr1, e1, e2, e3⟩ := hb call hc f fr h kn (fun id' fr h => ifB (Nat.beq id' id) (kn fr h) (kx id' fr h)) kr hr hg
  have e3' : (cBlock id x).run ⟨P, G, H, call⟩ fr h kn kx kr = kont ex kn (fun id' fr h => ifB (Nat.beq id' id) (kn fr h) (kx id' fr h)) kr fr1 h1 := e3
  rw [e3'] at hg ⊢
  cases ex with
  | normal => exact ⟨M + 1, .normal, f1, h1, fr1, by unfold evalCode; simp only [e1], e2, rfl⟩
  | goto l => exact (not_good _ hg).elim
  | ret => exact ⟨M + 1, .ret, f1, h1, fr1, by unfold evalCode; simp only [e1], e2, rfl⟩
  | exit id' =>
    cases hq : Nat.beq id' id with
    | true => exact ⟨M + 1, .normal, f1, h1, fr1, by unfold evalCode; simp only [e1, hq, cond_true], e2, by show ifB (Nat.beq id' id) _ _ = _; rw [ifB_true hq]; rfl⟩
    | false => exact ⟨M + 1, .exit id', f1, h1, fr1, by unfold evalCode; simp only [e1, hq, cond_false], e2, by show ifB (Nat.beq id' id) _ _ = _; rw [ifB_false hq]; rfl⟩
theorem cLoop_ok {b : Code} {x : CF} (hb : COk P G H loc b x) : COk P G H loc (.loop b) (cLoop x) := by
  intro call hc f fr h kn kx kr hr hg
  have key : ∀ (K : Nat) (f : T AVal) (fr : FR) (h : Hp), FrRel loc f fr → Good (Nat.rec (motive := fun _ => FR → Hp → Out) (fun _ _ => .bad 42) (fun _ lp fr h => x.run ⟨P, G, H, call⟩ fr h lp kx kr) K fr h) →
      ∃ M ex f' h' fr', evalCode P G H M (.loop b) f h = some ⟨ex, f', h'⟩ ∧ FrRel loc f' fr' ∧ Nat.rec (motive := fun _ => FR → Hp → Out) (fun _ _ => .bad 42) (fun _ lp fr h => x.run ⟨P, G, H, call⟩ fr h lp kx kr) K fr h = kont ex kn kx kr fr' h' := by
    intro K
    induction K with
    | zero => intro f fr h _ hg; exact (not_good _ hg).elim
    | succ K ih =>
      intro f fr h hr hg
      obtain ⟨M, ex, f1, h1, fr1, e1, e2, e3⟩ := hb call hc f fr h (Nat.rec (motive := fun _ => FR → Hp → Out) (fun _ _ => .bad 42) (fun _ lp fr h => x.run ⟨P, G, H, call⟩ fr h lp kx kr) K) kx kr hr hg
      have e3' : Nat.rec (motive := fun _ => FR → Hp → Out) (fun _ _ => .bad 42) (fun _ lp fr h => x.run ⟨P, G, H, call⟩ fr h lp kx kr) (K + 1) fr h = kont ex (Nat.rec (motive := fun _ => FR → Hp → Out) (fun _ _ => .bad 42) (fun _ lp fr h => x.run ⟨P, G, H, call⟩ fr h lp kx kr) K) kx kr fr1 h1 := e3
      rw [e3'] at hg ⊢
      cases ex with
      | normal =>
        obtain ⟨M', ex', f2, h2, fr2, q1, q2, q3⟩ := ih f1 fr1 h1 e2 hg
        refine ⟨Nat.max M M' + 1, ex', f2, h2, fr2, ?_, q2, q3⟩
        unfold evalCode
        simp only [(mono P G H (Nat.le_max_left M M')).code e1]
        exact (mono P G H (Nat.le_max_right M M')).code q1
      | goto l => exact (not_good _ hg).elim
      | exit id => exact ⟨M + 1, .exit id, f1, h1, fr1, by unfold evalCode; simp only [e1], e2, rfl⟩
      | ret => exact ⟨M + 1, .ret, f1, h1, fr1, by unfold evalCode; simp only [e1], e2, rfl⟩
  exact key 1000000 f fr h hr hg
theorem cScope_ok {b : Code} {x : CF} (hb : COk P G H loc b x) : COk P G H loc (.scope b) x := by
  intro call hc f fr h kn kx kr hr hg
  obtain ⟨M, ex, f1, h1, fr1, e1, e2, e3⟩ := hb call hc f fr h kn kx kr hr hg
  rw [e3] at hg
  refine ⟨M + 1, ex, f1, h1, fr1, ?_, e2, e3⟩
  unfold evalCode
  simp only [e1]
  cases ex with
  | goto l => exact (not_good _ hg).elim
  | _ => rfl

theorem and_true' {a b : Bool} (h : and a b = true) : a = true ∧ b = true := by cases a <;> cases b <;> first | exact ⟨rfl, rfl⟩ | cases h
theorem compC_ok (P : Program) (G : Nat → Option AVal) (H : Hook) (loc : Nat) : ∀ c : Code, ordC P c = true → COk P G H loc c (compC loc P c)
  | .skip, _ => fun call hc f fr h kn kx kr hr hg => ⟨1, .normal, f, h, fr, by simp [evalCode], hr, by simp [compC]; rfl⟩
  | .label l, _ => fun call hc f fr h kn kx kr hr hg => ⟨1, .normal, f, h, fr, by simp [evalCode], hr, by simp [compC]; rfl⟩
  | .region id ops d, ho => by have := compR_ok (G := G) (H := H) (loc := loc) ho; simpa [compC] using this
  | .seq a b, ho => by
    have ho' : and (ordC P a) (ordC P b) = true := by simpa [ordC] using ho
    obtain ⟨h1, h2⟩ := and_true' ho'
    have ha := compC_ok P G H loc a h1
    have hb := compC_ok P G H loc b h2
    cases a with
    | region id ops d =>
      cases b with
      | cond x p q =>
        have h2' : and (ordC P p) (ordC P q) = true := by simpa [ordC] using h2
        obtain ⟨g1, g2⟩ := and_true' h2'
        have hp := compC_ok P G H loc p g1
        have hq := compC_ok P G H loc q g2
        have := compT_ok (x := x) h1 hp hq
        simpa [compC] using this
      | seq b1 c =>
        cases b1 with
        | cond x p q =>
          have h2' : and (ordC P (.cond x p q)) (ordC P c) = true := by simpa [ordC] using h2
          obtain ⟨g0, g3⟩ := and_true' h2'
          have g0' : and (ordC P p) (ordC P q) = true := by simpa [ordC] using g0
          obtain ⟨g1, g2⟩ := and_true' g0'
          have hp := compC_ok P G H loc p g1
          have hq := compC_ok P G H loc q g2
          have hcc := compC_ok P G H loc c g3
          have := seq_assoc (cSeq_ok (compT_ok (x := x) h1 hp hq) hcc)
          simpa [compC] using this
        | _ => have := cSeq_ok ha hb; simpa [compC] using this
      | _ => have := cSeq_ok ha hb; simpa [compC] using this
    | _ => have := cSeq_ok ha hb; simpa [compC] using this
  | .cond x a b, ho => by
    have ho' : and (ordC P a) (ordC P b) = true := by simpa [ordC] using ho
    obtain ⟨h1, h2⟩ := and_true' ho'
    have := condC_ok (x := x) (compC_ok P G H loc a h1) (compC_ok P G H loc b h2)
    simpa [compC] using this
  | .block id b, ho => by
    have := cBlock_ok (id := id) (compC_ok P G H loc b (by simpa [ordC] using ho))
    simpa [compC] using this
  | .loop b, ho => by
    have := cLoop_ok (compC_ok P G H loc b (by simpa [ordC] using ho))
    simpa [compC] using this
  | .scope b, ho => by
    have := cScope_ok (compC_ok P G H loc b (by simpa [ordC] using ho))
    simpa [compC] using this
  | .exit id, _ => fun call hc f fr h kn kx kr hr hg => ⟨1, .exit id, f, h, fr, by simp [evalCode], hr, by simp [compC]; rfl⟩
  | .ret, _ => fun call hc f fr h kn kx kr hr hg => ⟨1, .ret, f, h, fr, by simp [evalCode], hr, by simp [compC]; rfl⟩
  | .rangeFunc _ _ _ _, _ => by simp only [compC]; exact cBad_ok _
  | .goto _, _ => by simp only [compC]; exact cBad_ok _
  | .refuse _, _ => by simp only [compC]; exact cBad_ok _
end
end
end Go.Ae
