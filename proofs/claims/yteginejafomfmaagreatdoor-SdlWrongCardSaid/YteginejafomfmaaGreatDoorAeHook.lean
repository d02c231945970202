/- Contracts: what the evaluator found of a call on plain values, used at any memory. No condition. -/
import Derived.Test.YteginejafomfmaaGreatDoorAeFa9
set_option linter.unusedVariables false
set_option linter.unusedSimpArgs false
namespace Go.Ae
open Go
noncomputable section

/-- Values that point nowhere into the memory. -/
def plainA : AVal → Bool
  | .bool _ | .int _ _ | .str _ _ | .gptr _ _ | .nilptr | .nilslice | .nilmap | .nilfunc | .niliface | .opq _ => true
  | _ => false
theorem VR.plain {ρ : Nat → Value} {β β' : Beta} {x : AVal} {v : Value} (hp : plainA x = true) (h : VR ρ β x v) : VR ρ β' x v := by
  cases h with
  | bool b => exact .bool b
  | int k n => exact .int k n
  | str h hc => exact .str h hc
  | gptr g o => exact .gptr g o
  | nilptr => exact .nilptr
  | nilslice => exact .nilslice
  | nilmap => exact .nilmap
  | nilfunc => exact .nilfunc
  | niliface => exact .niliface
  | opq i h hb => exact .opq i h hb
  | _ => cases hp
theorem VRs.plain {ρ : Nat → Value} {β β' : Beta} : ∀ {xs : List AVal} {vs : List Value}, xs.all plainA = true → VRs ρ β xs vs → VRs ρ β' xs vs
  | [], _, _, h => by cases h; exact .nil
  | x :: xs, _, hp, h => by
    cases h with
    | cons h hs =>
      simp only [List.all_cons, Bool.and_eq_true] at hp
      exact .cons (h.plain hp.1) (hs.plain hp.2)

/-- All that was there is there, as it was. -/
structure Keeps (w w' : World) : Prop where
  size : w.heap.size ≤ w'.heap.size
  same : ∀ k, k < w.heap.size → w'.heap[k]? = w.heap[k]?
  os : w'.os = w.os
  tape : w'.tape = w.tape
  output : w'.output = w.output
theorem Keeps.cell {w w' : World} (k : Keeps w w') {g : Nat} (h : g < w.heap.size) : w'.cell? ⟨g, 0, none⟩ = w.cell? ⟨g, 0, none⟩ := by
  unfold World.cell?
  rw [k.same g h]
theorem Keeps.rel {E : Env} {β : Beta} {h : Hp} {w w' : World} (k : Keeps w w') (r : Rel E β h w) : Rel E β h w' where
  blk := fun b x hb => by
    obtain ⟨h1, L, o, h2, h3, h4, h5⟩ := r.blk b x hb
    refine ⟨h1, L, o, h2, h3, ?_, h5⟩
    have hlt : L.blk < w.heap.size := by
      rcases Nat.lt_or_ge L.blk w.heap.size with h | h
      · exact h
      · rw [Array.getElem?_eq_none h] at h4; cases h4
    rw [k.same _ hlt]; exact h4
  inj := r.inj
  fresh := r.fresh
  glob := fun g v hg => by
    obtain ⟨h1, cv, h2, h3⟩ := r.glob g v hg
    exact ⟨h1, cv, by rw [k.cell (Nat.lt_of_lt_of_le h1 r.size)]; exact h2, h3⟩
  size := Nat.le_trans r.size k.size
theorem Keeps.frm {β : Beta} {h : Hp} {w w' : World} (k : Keeps w w') : Frm β h w β h w' where
  next := Nat.le_refl _
  ext := fun _ _ => rfl
  size := k.size
  same := fun i hi _ => k.same i hi
  range := fun b x L h1 h2 _ => ⟨b, x, L, h1, h2, rfl⟩
  dom := fun _ _ h => h
  os := k.os
  tape := k.tape
  output := k.output
theorem Frm.keeps {β β' : Beta} {h' : Hp} {w w' : World} (f : Frm β Hp.empty w β' h' w') : Keeps w w' where
  size := f.size
  same := fun k hk => f.same k hk fun b x L hb => by rw [show Hp.empty.get b = none from T.get_e b] at hb; cases hb
  os := f.os
  tape := f.tape
  output := f.output

/-- A contract of a function on given values: what it returns; all that was there stays. -/
def Conc (P : Program) (f : FuncId) (cargs : List Value) (cv : Value) : Prop :=
  ∀ w, Calls P f cargs.toArray w fun e w' => e = .returned cv ∧ Keeps w w'
theorem Rel.empty (E : Env) (hG : E.G = fun _ => none) (h0 : E.base = 0) (W : World) : Rel E (fun _ => none) Hp.empty W where
  blk := fun b x hb => by rw [show Hp.empty.get b = none from T.get_e b] at hb; cases hb
  inj := fun b b' x x' L L' hb => by rw [show Hp.empty.get b = none from T.get_e b] at hb; cases hb
  fresh := fun _ _ => rfl
  glob := fun g v hg => by rw [hG] at hg; cases hg
  size := by rw [h0]; exact Nat.zero_le _
theorem Conc.of_empty {P : Program} {E : Env} (hG : E.G = fun _ => none) (h0 : E.base = 0) {f : FuncId} {args : List AVal} {v : AVal} {h' : Hp} {cargs : List Value} {cv : Value} (hc : CallOk P E f args Hp.empty v h') (ha : VRs E.ρ (fun _ => none) args cargs)
    (hv : ∀ β cv', VR E.ρ β v cv' → cv' = cv) : Conc P f cargs cv := by
  intro w
  refine (hc (fun _ => none) w cargs (Rel.empty E hG h0 w) ha).mono fun e w' he => ?_
  obtain ⟨cv', β', rfl, hvr, _, hf⟩ := he
  exact ⟨by rw [hv β' cv' hvr], hf.keeps⟩
theorem Conc.callOk {P : Program} {E : Env} {f : FuncId} {args : List AVal} {v : AVal} {cv : Value} {cargs : List Value} (hc : Conc P f cargs cv) (ha : ∀ β cs, VRs E.ρ β args cs → cs = cargs) (hv : ∀ β, VR E.ρ β v cv) (h : Hp) : CallOk P E f args h v h := by
  intro β w cs rel hr
  have := ha β cs hr
  subst this
  refine (hc w).mono fun e w' ⟨he, hk⟩ => ?_
  exact ⟨cv, β, he, hv β, hk.rel rel, hk.frm⟩

/- operations on whole numbers, as the model has them -/
theorem run_rem {P : Program} {o : Oper} {t z : TypeId} {p q : Operand} (ho : o.op = .binOp .rem t p q z) {a : Act} {k : IntKind} {n m : Int} (hp : a.eval p = .int k n) (hq : a.eval q = .int k m) (hm : m ≠ 0) (w : World) :
    (execOp a.eval o).run P w = .ok (.value (.int k (n.tmod m))) w := by
  have hg : (eqGuard .rem t p q (.int k n) (.int k m)).run P w = .ok () w := rfl
  simp only [execOp, ho, hp, hq, Sem.run_bind, hg, Result.andThen_ok, binOp]
  simp [Op.intDiv, hm]
theorem run_cmp {P : Program} {o : Oper} {op : BinOp} {t z : TypeId} {p q : Operand} (hop : op = .lss ∨ op = .leq ∨ op = .gtr ∨ op = .geq) (ho : o.op = .binOp op t p q z) {a : Act} {k : IntKind} {n m : Int} (hp : a.eval p = .int k n) (hq : a.eval q = .int k m) (w : World) :
    (execOp a.eval o).run P w = .ok (.value (.bool (match op with | .lss => decide (n < m) | .leq => decide (n ≤ m) | .gtr => decide (n > m) | _ => decide (n ≥ m)))) w := by
  rcases hop with rfl | rfl | rfl | rfl
  all_goals
    simp only [execOp, ho, hp, hq, Sem.run_bind]
    simp [eqGuard, binOp, Op.intCmp]
theorem run_add {P : Program} {o : Oper} {t z : TypeId} {p q : Operand} (ho : o.op = .binOp .add t p q z) {a : Act} {k : IntKind} {n m : Int} (hp : a.eval p = .int k n) (hq : a.eval q = .int k m) (w : World) :
    (execOp a.eval o).run P w = .ok (.value (.int k (k.wrap (n + m)))) w := by
  simp only [execOp, ho, hp, hq, Sem.run_bind]
  simp [eqGuard, binOp, Op.intArith]
end
end Go.Ae
