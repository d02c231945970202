/- Each operation's closure does what the evaluator says of the operation. No condition. -/
import Derived.Test.YteginejafomfmaaGreatDoorAeFa2
set_option linter.unusedVariables false
set_option linter.unusedSimpArgs false
namespace Go.Ae
open Go
noncomputable section

def CallGood (P : Program) (G : Nat → Option AVal) (H : Hook) (call : CallF) : Prop :=
  ∀ f args h k, Good (call f args (frOf args 0 .e) h k) → ∃ n v h', evalCall P G H n f args h = some (v, h') ∧ call f args (frOf args 0 .e) h k = k (V.of v) h'

section
variable {P : Program} {G : Nat → Option AVal} {H : Hook}

theorem evalOp_pure {f : T AVal} {h : Hp} {o : Oper} {v : AVal} (hk : kindOf P o = .pure) (hp : pureOp P f o = some v) : evalOp P G H 1 f h o = some (v, h) := by
  unfold evalOp; rw [hk]; simp only [hp]
theorem evalOp_read {f : T AVal} {h : Hp} {o : Oper} {v : AVal} (hk : kindOf P o = .read) (hp : readOp P G f h o = some v) : evalOp P G H 1 f h o = some (v, h) := by
  unfold evalOp; rw [hk]; simp only [hp, Option.map_some]

theorem slowT_sound {call : CallF} (hc : CallGood P G H call) {o : Oper} {f : T AVal} {h : Hp} {k : KV} (hg : Good (slowT o f ⟨P, G, H, call⟩ h k)) :
    ∃ n v h', evalOp P G H n f h o = some (v, h') ∧ slowT o f ⟨P, G, H, call⟩ h k = k (V.of v) h' := by
  unfold slowT at hg ⊢
  simp only at hg ⊢
  cases hk : kindOf P o with
  | pure =>
    rw [hk] at hg
    simp only at hg ⊢
    cases hp : pureOp P f o with
    | some v => exact ⟨1, v, h, evalOp_pure hk hp, rfl⟩
    | none =>
      rw [hp] at hg
      simp only at hg ⊢
      split at hg
      · rename_i op t x y z ho
        split at hg
        · rename_i a b ha hb
          split at hg
          · rename_i v hv
            refine ⟨1, v, h, ?_, rfl⟩
            unfold evalOp; rw [hk]; simp only [hp, ho, ha, hb, hv]
          · exact (not_good _ hg).elim
        · exact (not_good _ hg).elim
      · exact (not_good _ hg).elim
  | read =>
    rw [hk] at hg
    simp only at hg ⊢
    cases hp : readOp P G f h o with
    | some v => exact ⟨1, v, h, evalOp_read hk hp, rfl⟩
    | none => rw [hp] at hg; exact (not_good _ hg).elim
  | alloc =>
    rw [hk] at hg
    simp only at hg ⊢
    cases hp : allocOp P f h.next o with
    | some vb => exact ⟨1, vb.1, h.new vb.2, by unfold evalOp; rw [hk]; simp only [hp, Option.map_some], rfl⟩
    | none => rw [hp] at hg; exact (not_good _ hg).elim
  | eff =>
    rw [hk] at hg
    simp only at hg ⊢
    have other : (∀ c, o.op ≠ .call c) ∨ (∃ c b, o.op = .call c ∧ c.callee = .builtin b) → ∀ {r : AVal × Hp}, effOp P f h o = some r → evalOp P G H 1 f h o = some r := by
      intro hno r he
      unfold evalOp; rw [hk]
      simp only
      rcases hno with hno | ⟨c, b, ho, hb⟩
      · split
        · rename_i c ho; exact absurd ho (hno c)
        · exact he
      · rw [ho]; simp only [hb]; exact he
    split at hg
    · rename_i c ho
      split at hg
      · rename_i b hb
        cases he : effOp P f h o with
        | some r => exact ⟨1, r.1, r.2, other (.inr ⟨c, b, ho, hb⟩) he, rfl⟩
        | none => rw [he] at hg; exact (not_good _ hg).elim
      · rename_i hb
        cases ht : targetA P f c with
        | none => rw [ht] at hg; exact (not_good _ hg).elim
        | some ga =>
          rw [ht] at hg
          simp only at hg ⊢
          obtain ⟨n, v, h', he, hr⟩ := hc ga.1 ga.2 h k hg
          refine ⟨n + 1, v, h', ?_, hr⟩
          unfold evalOp; rw [hk]
          simp only [ho]
          cases hcal : c.callee with
          | builtin b => exact absurd hcal (hb b)
          | _ => simp only [ht]; exact he
    · rename_i hno
      cases he : effOp P f h o with
      | some r => exact ⟨1, r.1, r.2, other (.inl hno) he, rfl⟩
      | none => rw [he] at hg; exact (not_good _ hg).elim

variable {loc n : Nat} {cs : CS} {gs : List Gd} {o : Oper}
def JOk (P : Program) (G : Nat → Option AVal) (H : Hook) (loc n : Nat) (cs : CS) (gs : List Gd) (o : Oper) (j : JF n) : Prop :=
  ∀ call, CallGood P G H call → ∀ f fr L h k, Inv loc n cs f fr L → (∀ g ∈ gs, holds f g) → Good (j.run ⟨P, G, H, call⟩ fr L h k) →
    ∃ m v h', evalOp P G H m f h o = some (v, h') ∧ j.run ⟨P, G, H, call⟩ fr L h k = k (V.of v) h'

theorem slowK_sound {call : CallF} (hc : CallGood P G H call) {f : T AVal} {fr : FR} {L : EnvT n} {h : Hp} {k : KV} (inv : Inv loc n cs f fr L) (hgs : ∀ g ∈ gs, holds f g)
    (hg : Good (slowK (slowS loc n cs gs o) ⟨P, G, H, call⟩ fr L h k)) : ∃ m v h', evalOp P G H m f h o = some (v, h') ∧ slowK (slowS loc n cs gs o) ⟨P, G, H, call⟩ fr L h k = k (V.of v) h' := by
  unfold slowK slowS at hg ⊢
  simp only at hg ⊢
  cases hb : binds loc n cs gs o.op.operands.toList with
  | none => rw [hb] at hg; exact (not_good _ hg).elim
  | some b =>
    rw [hb] at hg
    obtain ⟨m, v, h', he, hr⟩ := slowT_sound hc hg
    refine ⟨m, v, h', ?_, hr⟩
    rw [← he]
    exact (evalOp_congr fun x hx => binds_sound _ _ hb inv hgs x (by simpa using hx)).symm
theorem jSlow_ok : JOk P G H loc n cs gs o (jSlow (slowS loc n cs gs o)) := fun call hc f fr L h k inv hgs hg => slowK_sound hc inv hgs hg
theorem jBad_ok (w : Nat) : JOk P G H loc n cs gs o (jBad w) := fun call hc f fr L h k inv hgs hg => (not_good w hg).elim
theorem res_ok {x : Operand} {bad : JF n} {K : XF n → JF n} {gs' : List Gd} (hb : JOk P G H loc n cs gs o bad) (hK : ∀ y, XOk loc n cs gs' x y → JOk P G H loc n cs gs o (K y)) : JOk P G H loc n cs gs o (res loc n cs gs' x bad K) := by
  rcases res_cases (loc := loc) (cs := cs) (gs := gs') x bad K with h | ⟨y, hy, h⟩
  · rw [h]; exact hb
  · rw [h]; exact hK y hy
theorem resL_ok {l : List Operand} {bad : JF n} {K : List (XF n) → JF n} (hb : JOk P G H loc n cs gs o bad) (hK : ∀ y, XsOk loc n cs gs l y → JOk P G H loc n cs gs o (K y)) : JOk P G H loc n cs gs o (resL loc n cs gs l bad K) := by
  rcases resL_cases (loc := loc) (cs := cs) (gs := gs) bad l K with h | ⟨y, hy, h⟩
  · rw [h]; exact hb
  · rw [h]; exact hK y hy

theorem jMov_ok {x : Operand} {y : XF n} (ho : o.op = .move x ∨ o.op = .assign x) (hx : XOk loc n cs gs x y) : JOk P G H loc n cs gs o (jMov y) := by
  intro call hc f fr L h k inv hgs hg
  obtain ⟨a, ha, hy⟩ := hx f fr L inv hgs
  refine ⟨1, a, h, evalOp_pure ?_ ?_, ?_⟩
  · unfold kindOf; rcases ho with ho | ho <;> rw [ho]
  · unfold pureOp; rcases ho with ho | ho <;> (rw [ho]; exact ha)
  · show k (y.ev fr L) h = _; rw [hy]

theorem jPick_ok {t : Tmp} {a b : Operand} {x y z : XF n} (ho : o.op = .pick (.tmp t) a b) (hx : XOk loc n cs gs (.tmp t) x) (hy : XOk loc n cs ((t, true) :: gs) a y) (hz : XOk loc n cs ((t, false) :: gs) b z) :
    JOk P G H loc n cs gs o (jPick x y z) := by
  intro call hc f fr L h k inv hgs hg
  obtain ⟨c, hcv, hxe⟩ := hx f fr L inv hgs
  rw [opdA_tmp] at hcv
  simp only [Option.some.injEq] at hcv
  have hg' : Good (ifB (Nat.beq (x.ev fr L).tag 1) (Bool.rec (k (z.ev fr L) h) (k (y.ev fr L) h) (x.ev fr L).t) (.bad 25)) := hg
  have hk : kindOf P o = .pure := by unfold kindOf; rw [ho]
  rw [hxe] at hg'
  cases ht : Nat.beq (V.of c).tag 1 with
  | false => rw [ht] at hg'; exact (not_good _ hg').elim
  | true =>
    have hcb := tag_bool (Nat.eq_of_beq_eq_true ht)
    have hrun : (jPick x y z).run ⟨P, G, H, call⟩ fr L h k = Bool.rec (k (z.ev fr L) h) (k (y.ev fr L) h) (V.of c).t := by
      show ifB (Nat.beq (x.ev fr L).tag 1) (Bool.rec (k (z.ev fr L) h) (k (y.ev fr L) h) (x.ev fr L).t) (.bad 25) = _
      rw [hxe, ifB_true ht]
    rw [hrun]
    cases hb : (V.of c).t with
    | true =>
      rw [hb] at hcb
      obtain ⟨v, hv, hye⟩ := hy f fr L inv (by
        intro g hg2
        rcases List.mem_cons.1 hg2 with h | h
        · subst h; exact hcv.trans hcb
        · exact hgs g h)
      refine ⟨1, v, h, evalOp_pure hk ?_, by show k (y.ev fr L) h = _; rw [hye]⟩
      unfold pureOp; rw [ho]; simp only [opdA_tmp, hcv, hcb]; exact hv
    | false =>
      rw [hb] at hcb
      obtain ⟨v, hv, hze⟩ := hz f fr L inv (by
        intro g hg2
        rcases List.mem_cons.1 hg2 with h | h
        · subst h; exact hcv.trans hcb
        · exact hgs g h)
      refine ⟨1, v, h, evalOp_pure hk ?_, by show k (z.ev fr L) h = _; rw [hze]⟩
      unfold pureOp; rw [ho]; simp only [opdA_tmp, hcv, hcb]; exact hv

theorem cellK_good {h : Hp} {b off : Nat} {K : AVal → Out} (hg : Good (cellK h b off K)) : ∃ e ext fz t v, h.get b = some (.cells e ext fz t) ∧ t.get off = some v ∧ cellK h b off K = K v := by
  unfold cellK at hg ⊢
  cases hb : h.get b with
  | none => rw [hb] at hg; exact (not_good _ hg).elim
  | some blk =>
    rw [hb] at hg
    cases blk with
    | cells e ext fz t =>
      cases hv : t.get off with
      | none => simp only [hv] at hg; exact (not_good _ hg).elim
      | some v => exact ⟨e, ext, fz, t, v, rfl, hv, by simp only [hv]⟩
    | _ => exact (not_good _ hg).elim
theorem jLoad_ok {t : TypeId} {a : Operand} {x : XF n} (ho : o.op = .load t a) (ha : aggT P t = some false) (hx : XOk loc n cs gs a x) : JOk P G H loc n cs gs o (jLoad x (slowS loc n cs gs o)) := by
  intro call hc f fr L h k inv hgs hg
  obtain ⟨p, hp, hxe⟩ := hx f fr L inv hgs
  have hrun : (jLoad x (slowS loc n cs gs o)).run ⟨P, G, H, call⟩ fr L h k = ifB (Nat.beq (V.of p).tag 5) (cellK h (V.of p).a (V.of p).b (fun v => k (V.of v) h)) (slowK (slowS loc n cs gs o) ⟨P, G, H, call⟩ fr L h k) := by
    rw [← hxe]; rfl
  rw [hrun] at hg ⊢
  cases ht : Nat.beq (V.of p).tag 5 with
  | false => rw [ifB_false ht] at hg; rw [ifB_false rfl]; exact slowK_sound hc inv hgs hg
  | true =>
    rw [ifB_true ht] at hg; rw [ifB_true rfl]
    have hpp := tag_ptr (Nat.eq_of_beq_eq_true ht)
    obtain ⟨e, ext, fz, c, v, hb, hv, hr⟩ := cellK_good hg
    refine ⟨1, v, h, evalOp_read (by unfold kindOf; rw [ho]) ?_, hr⟩
    unfold readOp; rw [ho]
    simp only [hp]
    rw [hpp]
    simp only [loadA, hb, ha, hv]

theorem one_scalar {x : AVal} (h : (V.of x).one = true) : x.isTuple = false ∧ x.cells = [x] := by
  cases x with
  | agg l => cases h
  | tuple l => cases h
  | _ => exact ⟨rfl, rfl⟩
theorem storeK_good {h : Hp} {b off : Nat} {v : AVal} {k : KV} (hg : Good (storeK h b off v k)) :
    ∃ e ext fz t w, h.get b = some (.cells e ext fz t) ∧ t.get off = some w ∧ Nat.ble fz off = true ∧ storeK h b off v k = k V.undef (h.put b (.cells e (Nat.max ext (off + 1)) fz (t.set off v))) := by
  unfold storeK at hg ⊢
  cases hb : h.get b with
  | none => rw [hb] at hg; exact (not_good _ hg).elim
  | some blk =>
    rw [hb] at hg
    cases blk with
    | cells e ext fz t =>
      cases hv : t.get off with
      | none => simp only [hv] at hg; exact (not_good _ hg).elim
      | some w =>
        simp only [hv] at hg ⊢
        cases hf : Nat.ble fz off with
        | false => rw [ifB_false hf] at hg; exact (not_good _ hg).elim
        | true => exact ⟨e, ext, fz, t, w, rfl, hv, hf, ifB_true rfl⟩
    | _ => exact (not_good _ hg).elim
theorem jStore_ok {t : TypeId} {a x : Operand} {y z : XF n} (ho : o.op = .store t a x) (hs : sizeT P t = some 1) (hy : XOk loc n cs gs a y) (hz : XOk loc n cs gs x z) : JOk P G H loc n cs gs o (jStore y z (slowS loc n cs gs o)) := by
  intro call hc f fr L h k inv hgs hg
  obtain ⟨p, hp, hye⟩ := hy f fr L inv hgs
  obtain ⟨v, hv, hze⟩ := hz f fr L inv hgs
  have hrun : (jStore y z (slowS loc n cs gs o)).run ⟨P, G, H, call⟩ fr L h k = ifB (Nat.beq (V.of p).tag 5) (ifB (V.of v).one (storeK h (V.of p).a (V.of p).b (V.of v).v k) (slowK (slowS loc n cs gs o) ⟨P, G, H, call⟩ fr L h k)) (.bad 26) := by
    rw [← hye, ← hze]; rfl
  rw [hrun] at hg ⊢
  cases ht : Nat.beq (V.of p).tag 5 with
  | false => rw [ifB_false ht] at hg; exact (not_good _ hg).elim
  | true =>
    rw [ifB_true ht] at hg; rw [ifB_true rfl]
    have hpp := tag_ptr (Nat.eq_of_beq_eq_true ht)
    cases h1 : (V.of v).one with
    | false => rw [ifB_false h1] at hg; rw [ifB_false rfl]; exact slowK_sound hc inv hgs hg
    | true =>
      rw [ifB_true h1] at hg; rw [ifB_true rfl]
      rw [V.of_v] at hg ⊢
      obtain ⟨e, ext, fz, c, w, hb, hw, hf, hr⟩ := storeK_good hg
      obtain ⟨g1, g2⟩ := one_scalar h1
      refine ⟨1, .undef, _, ?_, hr⟩
      unfold evalOp
      have hk : kindOf P o = .eff := by unfold kindOf; rw [ho]
      rw [hk]
      simp only [ho]
      unfold effOp
      simp only [ho, hp, hv]
      rw [hpp]
      simp only [storeA, hb, hs, g1, g2, List.length_singleton, Nat.beq_refl, hf, known, hw]
      rfl

theorem jFaddr_ok {s : TypeId} {x : Operand} {fi m : Nat} {fields : Array Field} {fd : Field} {y : XF n} (ho : o.op = .fieldAddr s x fi) (hu : und P s = some (.struct fields)) (hfd : fields[fi]? = some fd) (hs : sizeT P fd.type = some (m + 1))
    (hx : XOk loc n cs gs x y) : JOk P G H loc n cs gs o (jFaddr fd.offset y) := by
  intro call hc f fr L h k inv hgs hg
  obtain ⟨p, hp, hye⟩ := hx f fr L inv hgs
  have hrun : (jFaddr fd.offset y).run ⟨P, G, H, call⟩ fr L h k = ifB (Nat.beq (V.of p).tag 5) (k (V.ofP (V.of p).a (Nat.add (V.of p).b fd.offset)) h) (.bad 27) := by rw [← hye]; rfl
  rw [hrun] at hg ⊢
  cases ht : Nat.beq (V.of p).tag 5 with
  | false => rw [ifB_false ht] at hg; exact (not_good _ hg).elim
  | true =>
    rw [ifB_true rfl]
    have hpp := tag_ptr (Nat.eq_of_beq_eq_true ht)
    refine ⟨1, .ptr (V.of p).a ((V.of p).b + fd.offset), h, evalOp_pure (by unfold kindOf; rw [ho]) ?_, rfl⟩
    unfold pureOp; rw [ho]
    simp only [hp]
    rw [hpp]
    simp only [fieldAddrA, hu, hfd, hs]
    rfl

theorem chkA_good {x : AVal} {k : Out} (hg : Good (chkA x k)) : chkA x k = k ∧ ((∃ b o, x = .ptr b o) ∨ (∃ b o, x = .gptr b o) ∨ (∃ t v, x = .iface t v) ∨ ∃ f a c, x = .func (.func f) a c) := by
  cases x with
  | ptr b o => exact ⟨rfl, .inl ⟨b, o, rfl⟩⟩
  | gptr b o => exact ⟨rfl, .inr (.inl ⟨b, o, rfl⟩)⟩
  | iface t v => exact ⟨rfl, .inr (.inr (.inl ⟨t, v, rfl⟩))⟩
  | func fn a c => cases fn with
    | func f => exact ⟨rfl, .inr (.inr (.inr ⟨f, a, c, rfl⟩))⟩
    | _ => exact (not_good _ hg).elim
  | _ => exact (not_good _ hg).elim
theorem jChk_ok {x : Operand} {y : XF n} (ho : o.op = .nilCheck x) (hx : XOk loc n cs gs x y) : JOk P G H loc n cs gs o (jChk y) := by
  intro call hc f fr L h k inv hgs hg
  obtain ⟨p, hp, hye⟩ := hx f fr L inv hgs
  have hrun : (jChk y).run ⟨P, G, H, call⟩ fr L h k = ifB (Nat.beq (V.of p).tag 5) (k (V.of p) h) (chkA (V.of p).v (k (V.of p) h)) := by rw [← hye]; rfl
  rw [hrun] at hg ⊢
  have hk : kindOf P o = .pure := by unfold kindOf; rw [ho]
  have key : ((∃ b o, p = .ptr b o) ∨ (∃ b o, p = .gptr b o) ∨ (∃ t v, p = .iface t v) ∨ ∃ f a c, p = .func (.func f) a c) → pureOp P f o = some p := by
    intro hh
    unfold pureOp; rw [ho]
    simp only [hp]
    rcases hh with ⟨b, q, rfl⟩ | ⟨b, q, rfl⟩ | ⟨t, v, rfl⟩ | ⟨g, a, c, rfl⟩ <;> rfl
  cases ht : Nat.beq (V.of p).tag 5 with
  | false =>
    rw [ifB_false ht] at hg; rw [ifB_false rfl]
    rw [V.of_v] at hg ⊢
    obtain ⟨hr, hh⟩ := chkA_good hg
    exact ⟨1, p, h, evalOp_pure hk (key hh), hr⟩
  | true =>
    rw [ifB_true rfl]
    exact ⟨1, p, h, evalOp_pure hk (key (.inl ⟨_, _, tag_ptr (Nat.eq_of_beq_eq_true ht)⟩)), rfl⟩
theorem jNot_ok {t : TypeId} {x : Operand} {y : XF n} (ho : o.op = .unOp .not t x) (hx : XOk loc n cs gs x y) : JOk P G H loc n cs gs o (jNot y) := by
  intro call hc f fr L h k inv hgs hg
  obtain ⟨p, hp, hye⟩ := hx f fr L inv hgs
  have hrun : (jNot y).run ⟨P, G, H, call⟩ fr L h k = ifB (Nat.beq (V.of p).tag 1) (k (V.ofB (Bool.rec true false (V.of p).t)) h) (.bad 29) := by rw [← hye]; rfl
  rw [hrun] at hg ⊢
  cases ht : Nat.beq (V.of p).tag 1 with
  | false => rw [ifB_false ht] at hg; exact (not_good _ hg).elim
  | true =>
    rw [ifB_true rfl]
    have hpp := tag_bool (Nat.eq_of_beq_eq_true ht)
    refine ⟨1, .bool (!(V.of p).t), h, evalOp_pure (by unfold kindOf; rw [ho]) ?_, ?_⟩
    · unfold pureOp; rw [ho]
      simp only [hp]
      rw [hpp]; rfl
    · cases (V.of p).t <;> rfl
end
end
end Go.Ae
