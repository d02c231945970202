/- Contracts: what the evaluator found of a call on plain values, used at any memory. No condition. -/
import Derived.Test.YtmkeapfgondiiaaGreatDoorEvI
import Derived.Eval
import Derived.RowKit3
import Derived.MakeChecks
set_option linter.unusedVariables false
set_option linter.unusedSimpArgs false
namespace Go.Ae
open Go
noncomputable section

/-- Values that point nowhere into the memory. -/
def plainA : AVal → Bool
  | .bool _ | .int _ _ | .str _ _ | .gptr _ _ | .nilptr | .nilslice | .nilmap | .nilfunc | .niliface | .opq _ => true
  | _ => false
theorem VR.plain {ρ : Nat → Value} {β β' : Beta} {x : AVal} {v : Value} (hp : plainA x = true) (h : VR ρ β x v) : VR ρ β' x v := by
  cases h with
  | bool b => exact .bool b
  | int k n => exact .int k n
  | str h hc => exact .str h hc
  | gptr g o => exact .gptr g o
  | nilptr => exact .nilptr
  | nilslice => exact .nilslice
  | nilmap => exact .nilmap
  | nilfunc => exact .nilfunc
  | niliface => exact .niliface
  | opq i h hb => exact .opq i h hb
  | _ => cases hp
theorem VRs.plain {ρ : Nat → Value} {β β' : Beta} : ∀ {xs : List AVal} {vs : List Value}, xs.all plainA = true → VRs ρ β xs vs → VRs ρ β' xs vs
  | [], _, _, h => by cases h; exact .nil
  | x :: xs, _, hp, h => by
    cases h with
    | cons h hs =>
      simp only [List.all_cons, Bool.and_eq_true] at hp
      exact .cons (h.plain hp.1) (hs.plain hp.2)

/-- All that was there is there, as it was. -/
structure Keeps (w w' : World) : Prop where
  size : w.heap.size ≤ w'.heap.size
  same : ∀ k, k < w.heap.size → w'.heap[k]? = w.heap[k]?
  os : w'.os = w.os
  tape : w'.tape = w.tape
  output : w'.output = w.output
theorem Keeps.cell {w w' : World} (k : Keeps w w') {g : Nat} (h : g < w.heap.size) : w'.cell? ⟨g, 0, none⟩ = w.cell? ⟨g, 0, none⟩ := by
  unfold World.cell?
  rw [k.same g h]
theorem Keeps.rel {E : Env} {β : Beta} {h : Hp} {w w' : World} (k : Keeps w w') (r : Rel E β h w) : Rel E β h w' where
  blk := fun b x hb => by
    obtain ⟨h1, L, o, h2, h3, h4, h5⟩ := r.blk b x hb
    refine ⟨h1, L, o, h2, h3, ?_, h5⟩
    have hlt : L.blk < w.heap.size := by
      rcases Nat.lt_or_ge L.blk w.heap.size with h | h
      · exact h
      · rw [Array.getElem?_eq_none h] at h4; cases h4
    rw [k.same _ hlt]; exact h4
  inj := r.inj
  fresh := r.fresh
  glob := fun g v hg => by
    obtain ⟨h1, cv, h2, h3⟩ := r.glob g v hg
    exact ⟨h1, cv, by rw [k.cell (Nat.lt_of_lt_of_le h1 r.size)]; exact h2, h3⟩
  size := Nat.le_trans r.size k.size
theorem Keeps.frm {β : Beta} {h : Hp} {w w' : World} (k : Keeps w w') : Frm β h w β h w' where
  next := Nat.le_refl _
  ext := fun _ _ => rfl
  size := k.size
  same := fun i hi _ => k.same i hi
  range := fun b x L h1 h2 _ => ⟨b, x, L, h1, h2, rfl⟩
  dom := fun _ _ h => h
  os := k.os
  tape := k.tape
  output := k.output
theorem Frm.keeps {β β' : Beta} {h' : Hp} {w w' : World} (f : Frm β Hp.empty w β' h' w') : Keeps w w' where
  size := f.size
  same := fun k hk => f.same k hk fun b x L hb => by rw [show Hp.empty.get b = none from T.get_e b] at hb; cases hb
  os := f.os
  tape := f.tape
  output := f.output

/-- A contract of a function on given values: what it returns; all that was there stays. -/
def Conc (P : Program) (f : FuncId) (cargs : List Value) (cv : Value) : Prop :=
  ∀ w, Calls P f cargs.toArray w fun e w' => e = .returned cv ∧ Keeps w w'
theorem Rel.empty (E : Env) (hG : E.G = fun _ => none) (h0 : E.base = 0) (W : World) : Rel E (fun _ => none) Hp.empty W where
  blk := fun b x hb => by rw [show Hp.empty.get b = none from T.get_e b] at hb; cases hb
  inj := fun b b' x x' L L' hb => by rw [show Hp.empty.get b = none from T.get_e b] at hb; cases hb
  fresh := fun _ _ => rfl
  glob := fun g v hg => by rw [hG] at hg; cases hg
  size := by rw [h0]; exact Nat.zero_le _
theorem Conc.of_empty {P : Program} {E : Env} (hG : E.G = fun _ => none) (h0 : E.base = 0) {f : FuncId} {args : List AVal} {v : AVal} {h' : Hp} {cargs : List Value} {cv : Value} (hc : CallOk P E f args Hp.empty v h') (ha : VRs E.ρ (fun _ => none) args cargs)
    (hv : ∀ β cv', VR E.ρ β v cv' → cv' = cv) : Conc P f cargs cv := by
  intro w
  refine (hc (fun _ => none) w cargs (Rel.empty E hG h0 w) ha).mono fun e w' he => ?_
  obtain ⟨cv', β', rfl, hvr, _, hf⟩ := he
  exact ⟨by rw [hv β' cv' hvr], hf.keeps⟩
theorem Conc.callOk {P : Program} {E : Env} {f : FuncId} {args : List AVal} {v : AVal} {cv : Value} {cargs : List Value} (hc : Conc P f cargs cv) (ha : ∀ β cs, VRs E.ρ β args cs → cs = cargs) (hv : ∀ β, VR E.ρ β v cv) (h : Hp) : CallOk P E f args h v h := by
  intro β w cs rel hr
  have := ha β cs hr
  subst this
  refine (hc w).mono fun e w' ⟨he, hk⟩ => ?_
  exact ⟨cv, β, he, hv β, hk.rel rel, hk.frm⟩

/- operations on whole numbers, as the model has them -/
theorem run_rem {P : Program} {o : Oper} {t z : TypeId} {p q : Operand} (ho : o.op = .binOp .rem t p q z) {a : Act} {k : IntKind} {n m : Int} (hp : a.eval p = .int k n) (hq : a.eval q = .int k m) (hm : m ≠ 0) (w : World) :
    (execOp a.eval o).run P w = .ok (.value (.int k (n.tmod m))) w := by
  have hg : (eqGuard .rem t p q (.int k n) (.int k m)).run P w = .ok () w := rfl
  simp only [execOp, ho, hp, hq, Sem.run_bind, hg, Result.andThen_ok, binOp]
  simp [Op.intDiv, hm]
theorem run_cmp {P : Program} {o : Oper} {op : BinOp} {t z : TypeId} {p q : Operand} (hop : op = .lss ∨ op = .leq ∨ op = .gtr ∨ op = .geq) (ho : o.op = .binOp op t p q z) {a : Act} {k : IntKind} {n m : Int} (hp : a.eval p = .int k n) (hq : a.eval q = .int k m) (w : World) :
    (execOp a.eval o).run P w = .ok (.value (.bool (match op with | .lss => decide (n < m) | .leq => decide (n ≤ m) | .gtr => decide (n > m) | _ => decide (n ≥ m)))) w := by
  rcases hop with rfl | rfl | rfl | rfl
  all_goals
    simp only [execOp, ho, hp, hq, Sem.run_bind]
    simp [eqGuard, binOp, Op.intCmp]
theorem run_add {P : Program} {o : Oper} {t z : TypeId} {p q : Operand} (ho : o.op = .binOp .add t p q z) {a : Act} {k : IntKind} {n m : Int} (hp : a.eval p = .int k n) (hq : a.eval q = .int k m) (w : World) :
    (execOp a.eval o).run P w = .ok (.value (.int k (k.wrap (n + m)))) w := by
  simp only [execOp, ho, hp, hq, Sem.run_bind]
  simp [eqGuard, binOp, Op.intArith]
end
end Go.Ae
/- Place and awake as contracts; what a run by the kernel shows. No condition. -/
set_option linter.unusedVariables false
set_option linter.unusedSimpArgs false
namespace Go.Ae
open Go
noncomputable section

/-- Did a run come to this value? -/
def Out.is (o : Out) (x : AVal) : Bool := match o with
  | .ok v _ => beqV 9 v x
  | .bad _ => false
theorem Out.is_ok {o : Out} {x : AVal} (h : o.is x = true) : ∃ h', o = .ok x h' := by
  cases o with
  | ok v h' => exact ⟨h', by rw [beqV_eq 9 v x h]⟩
  | bad n => cases h

theorem wrap_nat {m : Int} (h0 : 0 ≤ m) (h1 : m < 9223372036854775808) : IntKind.i64.wrap m = m := by
  obtain ⟨k, rfl⟩ := Int.eq_ofNat_of_zero_le h0
  exact wrap_i64 (m := k) (by omega)
/-- A number's place among n, as the program reckons it. -/
theorem place_eq {v n : Int} (h0 : 0 < n) (h1 : n < 9223372036854775808) : (if v.tmod n < 0 then IntKind.i64.wrap (v.tmod n + n) else v.tmod n) = v % n := by
  have hlt := Int.emod_lt_of_pos v h0
  have hge := Int.emod_nonneg v (Int.ne_of_gt h0)
  rw [Int.tmod_eq_emod]
  split
  · rw [if_neg (by omega)]; omega
  · rw [if_pos (by omega)]
    have e : v % n - ↑n.natAbs + n = v % n := by omega
    rw [e, wrap_nat hge (by omega)]

def hookPlace (b : Bool) : Hook := ⟨fun _ _ _ => none, fun op x y => match op, x, y with
  | .rem, .opq 0, .opq 1 => some (.opq 2)
  | .lss, .opq 2, .int .i64 0 => some (.bool b)
  | .add, .opq 2, .opq 1 => some (.opq 3)
  | _, _, _ => none⟩
def envPlace (v n : Int) : Env := ⟨fun i => match i with
  | 0 => .int .i64 v
  | 1 => .int .i64 n
  | 2 => .int .i64 (v.tmod n)
  | _ => .int .i64 (IntKind.i64.wrap (v.tmod n + n)), fun _ => none, 0⟩
theorem hookPlace_ok {P : Program} {v n : Int} (hn : n ≠ 0) : HookOk P (envPlace v n) (hookPlace (decide (v.tmod n < 0))) := by
  refine ⟨fun _ _ _ _ _ h => (by cases h), fun op x y u h β a o t p q z ho hx hy => ?_⟩
  simp only [hookPlace] at h
  split at h
  · simp only [Option.some.injEq] at h
    subst h
    generalize hcx : a.eval p = cx at hx
    generalize hcy : a.eval q = cy at hy
    cases hx; cases hy
    exact ⟨_, fun w => run_rem ho hcx hcy hn w, .opq 2 rfl (by intro b h; cases h)⟩
  · simp only [Option.some.injEq] at h
    subst h
    generalize hcx : a.eval p = cx at hx
    generalize hcy : a.eval q = cy at hy
    cases hx; cases hy
    exact ⟨_, fun w => run_cmp (.inl rfl) ho hcx hcy w, .bool _⟩
  · simp only [Option.some.injEq] at h
    subst h
    generalize hcx : a.eval p = cx at hx
    generalize hcy : a.eval q = cy at hy
    cases hx; cases hy
    exact ⟨_, fun w => run_add ho hcx hcy w, .opq 3 rfl (by intro b h; cases h)⟩
  · cases h

section
variable {P : Program} {locs : FuncId → Nat}
/-- Place's contract, out of two runs. -/
theorem place_conc (hmix : P.follows .mixedOrders = true) (hfit : fitsP P = true) (hord : ordP P locs = true) {f : FuncId} {fn : Func} (hf : P.funcs[f]? = some fn) (hb : fn.body.isSome = true)
    (r1 : (fast P (fun _ => none) (hookPlace true) locs f [.opq 0, .opq 1] Hp.empty).is (.opq 3) = true) (r2 : (fast P (fun _ => none) (hookPlace false) locs f [.opq 0, .opq 1] Hp.empty).is (.opq 2) = true)
    {v n : Int} (h0 : 0 < n) (h1 : n < 9223372036854775808) : Conc P f [.int .i64 v, .int .i64 n] (.int .i64 (v % n)) := by
  have hargs : VRs (envPlace v n).ρ (fun _ => none) [.opq 0, .opq 1] [.int .i64 v, .int .i64 n] := .cons (.opq 0 rfl (by intro b h; cases h)) (.cons (.opq 1 rfl (by intro b h; cases h)) .nil)
  rw [← place_eq h0 h1]
  cases hb2 : decide (v.tmod n < 0) with
  | true =>
    obtain ⟨h', he⟩ := Out.is_ok r1
    have hc := fast_sound (E := envPlace v n) hmix hfit hord (by rw [← hb2]; exact hookPlace_ok (Int.ne_of_gt h0)) hf hb he
    refine Conc.of_empty rfl rfl hc hargs fun β cv' hv => ?_
    cases hv
    rw [if_pos (of_decide_eq_true hb2)]; rfl
  | false =>
    obtain ⟨h', he⟩ := Out.is_ok r2
    have hc := fast_sound (E := envPlace v n) hmix hfit hord (by rw [← hb2]; exact hookPlace_ok (Int.ne_of_gt h0)) hf hb he
    refine Conc.of_empty rfl rfl hc hargs fun β cv' hv => ?_
    cases hv
    rw [if_neg (of_decide_eq_false hb2)]; rfl

/-- The hook of a law: numbers placed, and the example that is always asked. -/
def placeHook (pv : Nat → Nat → Option Nat) (args : List AVal) (h : Hp) : Option (Option (AVal × Hp)) := match args with
  | [.opq i, .int .i64 (.ofNat n)] => match pv i n with
    | some k => some (some (.int .i64 (.ofNat k), h))
    | none => none
  | _ => none
def awakeHook (args : List AVal) (h : Hp) : Option (Option (AVal × Hp)) := match args with
  | [] => some (some (.bool true, h))
  | _ => none
def hookPA (place awake : Nat) (pv : Nat → Nat → Option Nat) : Hook := ⟨fun f args h => Bool.rec (Bool.rec none (awakeHook args h) (Nat.beq f awake)) (placeHook pv args h) (Nat.beq f place), fun _ _ _ => none⟩
theorem hookPA_ok {E : Env} {place awake : Nat} {pv : Nat → Nat → Option Nat} (hp : ∃ fn, P.funcs[place]? = some fn ∧ fn.body.isSome = true) (ha : ∃ fn, P.funcs[awake]? = some fn ∧ fn.body.isSome = true)
    (cp : ∀ v n : Int, 0 < n → n < 9223372036854775808 → Conc P place [.int .i64 v, .int .i64 n] (.int .i64 (v % n))) (ca : Conc P awake [] (.bool true))
    (hpv : ∀ i n k, pv i n = some k → ∃ v : Int, E.ρ i = .int .i64 v ∧ 0 < n ∧ n < 9223372036854775808 ∧ v % (n : Int) = k) : HookOk P E (hookPA place awake pv) := by
  refine ⟨fun f args h v h' hh => ?_, fun _ _ _ _ h => (by cases h)⟩
  simp only [hookPA] at hh
  cases h1 : Nat.beq f place with
  | true =>
    rw [h1] at hh
    have := Nat.eq_of_beq_eq_true h1
    subst this
    refine ⟨hp, ?_⟩
    simp only [placeHook] at hh
    split at hh
    · rename_i i n
      split at hh
      · rename_i k hk
        simp only [Option.some.injEq, Prod.mk.injEq] at hh
        obtain ⟨rfl, rfl⟩ := hh
        obtain ⟨z, e1, e2, e3, e4⟩ := hpv i n k hk
        refine Conc.callOk (cp z n (by omega) (by omega)) (fun β cs hcs => ?_) (fun β => ?_) h
        · cases hcs with | cons a b => cases b with | cons c d => cases d; cases a; cases c; rw [e1]; rfl
        · rw [e4]; exact .int _ _
      · cases hh
    · cases hh
  | false =>
    rw [h1] at hh
    cases h2 : Nat.beq f awake with
    | false => rw [h2] at hh; cases hh
    | true =>
      rw [h2] at hh
      have := Nat.eq_of_beq_eq_true h2
      subst this
      refine ⟨ha, ?_⟩
      simp only [awakeHook] at hh
      split at hh
      · simp only [Option.some.injEq, Prod.mk.injEq] at hh
        obtain ⟨rfl, rfl⟩ := hh
        exact Conc.callOk ca (fun β cs hcs => by cases hcs; rfl) (fun β => .bool _) h
      · cases hh
end
end
end Go.Ae
/- What the listed variables' premise says of a variable that holds an interface value; the row's end for a law that was handed plain values. No condition. -/
set_option linter.unusedVariables false
set_option linter.unusedSimpArgs false
namespace Go.Ae
open Go
theorem trod_iface {H : Type} {enc : TypeId × Value → H} {P : Program} {w : World} {base : Nat} {spare : Nat → Bool} {held : Bool} {fuel : Nat} {t : TypeId} {cs : List Value} {nm : String} {d : DataW H} {ps : List MemPlace}
    (h : DataW.trod enc P w base spare held fuel t cs = some (.iface nm d, ps)) : ∃ u v, cs = [.iface u v] := by
  cases fuel with
  | zero => simp [DataW.trod] at h
  | succ fuel =>
    unfold DataW.trod at h
    split at h
    all_goals first
      | (exfalso; simp at h; done)
      | (exfalso; split at h <;> simp at h; done)
      | exact ⟨_, _, rfl⟩
      | skip
    all_goals exfalso
    all_goals first
      | (rw [Option.map_eq_some_iff] at h
         obtain ⟨x, _, h⟩ := h
         simp at h
         done)
      | (split at h
         · rw [Option.bind_eq_some_iff] at h
           obtain ⟨x, _, h⟩ := h
           simp at h
           done
         · simp at h
           done)
      | (split at h
         · split at h
           · rw [Option.bind_eq_some_iff] at h
             obtain ⟨x, _, h⟩ := h
             simp only at h
             split at h
             · simp at h
             · simp at h
           · simp at h
         · simp at h)
theorem laid_iface {P : Program} {w : World} {n : String} {nm : String} {d : DataW Unit} : ∀ {l : List (String × DataW Unit)} {ps : List MemPlace}, DataW.LaidVars P w l ps → (n, .iface nm d) ∈ l →
    ∃ g u v, P.globalNamed n = some g ∧ g < w.heap.size ∧ w.cell? ⟨g, 0, none⟩ = some (.iface u v)
  | [], ps, h, hm => by cases hm
  | (n', d') :: l, ps, h, hm => by
    obtain ⟨g, t, cs, fuel, p, q, h1, h2, h3, h4, h5, _⟩ := h
    rcases List.mem_cons.1 hm with hm | hm
    · cases hm
      obtain ⟨u, v, hcs⟩ := trod_iface h4
      unfold World.var? at h3
      rw [h1] at h3
      simp only [Option.bind_some] at h3
      cases hg : w.heap[g]? with
      | none => rw [hg] at h3; cases h3
      | some o =>
        rw [hg] at h3
        cases o with
        | cells c t' fr =>
          simp only [Option.some.injEq] at h3
          subst h3
          refine ⟨g, u, v, h1, ?_, ?_⟩
          · rcases Nat.lt_or_ge g w.heap.size with h | h
            · exact h
            · rw [Array.getElem?_eq_none h] at hg; cases hg
          · unfold World.cell?
            rw [hg]
            simp only [Option.isSome_none]
            have : c[0]? = some (.iface u v) := by rw [← Array.getElem?_toList, hcs]; rfl
            exact this
        | _ => cases h3
    · exact laid_iface h5 hm
theorem laidMet_iface {P : Program} {w : World} {n : String} {nm : String} {d : DataW Unit} {l : List (String × DataW Unit)} (h : laidMet P l w) (hm : (n, .iface nm d) ∈ l) :
    ∃ g u v, P.globalNamed n = some g ∧ g < w.heap.size ∧ w.cell? ⟨g, 0, none⟩ = some (.iface u v) := by
  obtain ⟨ps, h1, _⟩ := h
  exact laid_iface h1 hm

theorem Frm.kept {β β' : Beta} {h' : Hp} {w w' : World} (f : Frm β Hp.empty w β' h' w') : w.keptBut w' (fun _ => False) := by
  refine ⟨f.os, f.output, fun i hi => ?_⟩
  have he : w'.heap[i]? = w.heap[i]? := f.keeps.same i hi
  rw [he]
  cases w.heap[i]? with
  | none => rfl
  | some o => cases o <;> first | exact ⟨rfl, rfl, rfl, fun _ _ => rfl⟩ | exact .inr ⟨rfl, rfl⟩ | rfl
end Go.Ae
