/- What a piece of code is to do, and the statement on regions whose order the run draws. -/
import Derived.Test.YtmkeapfgondiiaaGreatDoorEvD
import Derived.Orders
set_option linter.unusedVariables false
set_option linter.unusedSimpArgs false
namespace Go.Ae
open Go

def fitsOps (N : Nat) (ops : List Oper) : Bool := ops.all fun o => match o.dst with
  | some d => Nat.blt d N
  | none => true
def fitsC (N : Nat) : Code → Bool
  | .region _ ops _ => fitsOps N ops.toList
  | .seq a b => fitsC N a && fitsC N b
  | .cond _ a b => fitsC N a && fitsC N b
  | .block _ b => fitsC N b
  | .loop b => fitsC N b
  | .scope b => fitsC N b
  | _ => true
def fitsFn (fn : Func) : Bool := match fn.body with
  | none => true
  | some c => fitsC fn.ntmps c && !(fn.name == "runtime.NumGoroutine")
def fitsP (P : Program) : Bool := P.funcs.all fitsFn

theorem fitsP_fn {P : Program} (h : fitsP P = true) {f : FuncId} {fn : Func} (hf : P.funcs[f]? = some fn) : fitsFn fn = true :=
  Array.all_eq_true_iff_forall_mem.1 h fn (Array.mem_of_getElem? hf)

def Ex.toExit : Ex → Exit
  | .normal => .normal
  | .exit id => .exit id
  | .goto l => .goto l
  | .ret => .ret

def Post (E : Env) (β : Beta) (h : Hp) (w : World) (N : Nat) (r : Res) : Exit → Act → World → Prop :=
  fun e a' w' => e = r.ex.toExit ∧ ∃ β', FrR E β' N r.fr a' ∧ Rel E β' r.h w' ∧ Frm β h w β' r.h w'

def OpSound (P : Program) (E : Env) (H : Hook) (n : Nat) : Prop :=
  ∀ {β fr h o v h' w a N}, evalOp P E.G H n fr h o = some (v, h') → Rel E β h w → FrR E β N fr a → StepOk P E β h w (execOp a.eval o) v h'
def CallSound (P : Program) (E : Env) (H : Hook) (n : Nat) : Prop :=
  ∀ {f args h v h' β w cargs}, evalCall P E.G H n f args h = some (v, h') → Rel E β h w → VRs E.ρ β args cargs → StepOk P E β h w (callFunc f cargs.toArray) v h'
def CodeSound (P : Program) (E : Env) (H : Hook) (n : Nat) : Prop :=
  ∀ {c fr h r β w a N}, evalCode P E.G H n c fr h = some r → fitsC N c = true → Rel E β h w → FrR E β N fr a → c.wp P (Post E β h w N r) a w

section
variable {P : Program} {E : Env} {β : Beta} {h : Hp} {w : World} {fr : T AVal} {a : Act} {N : Nat}

theorem VR.bool_iff {x : AVal} {v : Value} {ρ : Nat → Value} (hv : VR ρ β x v) (b : Bool) : v = .bool b ↔ x = .bool b := by
  cases hv with
  | bool c => exact ⟨fun e => by cases e; rfl, fun e => by cases e; rfl⟩
  | opq i h hb => exact ⟨fun e => absurd e (hb _), fun e => by cases e⟩
  | _ => constructor <;> (intro e; cases e)

theorem yielded_eq (hf : FrR E β N fr a) (ops : Array Oper) (j : Nat) : yielded ops a.tmps j = yieldA ops.toList fr j := by
  unfold yielded yieldA
  rw [Array.getElem?_toList]
  cases hd : (ops[j]?).bind (·.dst) with
  | none => rfl
  | some d =>
    have hv := hf.val d
    simp only [Option.bind_some]
    cases hg : fr.get d with
    | none =>
      rw [hg] at hv
      simp only [Option.getD_none] at hv
      split
      · rename_i b hb
        have : a.tmps.getD d undef = .bool b := by simp [Array.getD_eq_getD_getElem?, hb]
        rw [this] at hv
        cases (hv.bool_iff b).1 rfl
      · rfl
    | some x =>
      rw [hg] at hv
      simp only [Option.getD_some] at hv
      split
      · rename_i b hb
        have : a.tmps.getD d undef = .bool b := by simp [Array.getD_eq_getD_getElem?, hb]
        rw [this] at hv
        rw [(hv.bool_iff b).1 rfl]
      · rename_i hb
        split
        · rename_i b hx
          simp only [Option.some.injEq] at hx; subst hx
          have := (hv.bool_iff b).2 rfl
          rw [Array.getD_eq_getD_getElem?] at this
          cases ht : a.tmps[d]? with
          | none => rw [ht] at this; simp [undef] at this
          | some y => rw [ht] at this; simp only [Option.getD_some] at this; subst this; exact absurd ht (hb b)
        · rfl

theorem wanted_eq (hf : FrR E β N fr a) (ops : Array Oper) (o : Oper) : Region.wanted o (yielded ops a.tmps) = wantedA ops.toList fr o := by
  unfold Region.wanted wantedA
  cases o.guard with
  | none => rfl
  | some g => obtain ⟨j, want⟩ := g; simp only; rw [yielded_eq hf ops j]

theorem undef_VR {ρ : Nat → Value} : VR ρ β AVal.undef undef := .tuple .nil
end
end Go.Ae
/- Of orders: masks, counts, what stands ahead of what. -/
set_option linter.unusedVariables false
set_option linter.unusedSimpArgs false
namespace Go.Ae
open Go

section
variable {P : Program}

theorem testBit_effFrom : ∀ (l : List Oper) (i k : Nat), (effFrom P l i).testBit k = true ↔ ∃ o, i ≤ k ∧ l[k - i]? = some o ∧ isEff P o = true
  | [], i, k => by simp [effFrom]
  | o :: l, i, k => by
    have ih := testBit_effFrom l (i + 1) k
    have shift : (∃ o', i ≤ k ∧ (o :: l)[k - i]? = some o' ∧ isEff P o' = true) ↔ (i = k ∧ isEff P o = true) ∨ ∃ o', i + 1 ≤ k ∧ l[k - (i + 1)]? = some o' ∧ isEff P o' = true := by
      constructor
      · rintro ⟨o', h1, h2, h3⟩
        by_cases hk : i = k
        · subst hk; simp at h2; subst h2; exact .inl ⟨rfl, h3⟩
        · refine .inr ⟨o', by omega, ?_, h3⟩
          have : k - i = (k - (i + 1)) + 1 := by omega
          rw [this] at h2; simpa using h2
      · rintro (⟨rfl, h⟩ | ⟨o', h1, h2, h3⟩)
        · exact ⟨o, Nat.le_refl _, by simp, h⟩
        · refine ⟨o', by omega, ?_, h3⟩
          have : k - i = (k - (i + 1)) + 1 := by omega
          rw [this]; simpa using h2
    rw [shift]
    unfold effFrom
    cases he : isEff P o with
    | true =>
      simp only [cond_true, Nat.testBit_or, Bool.or_eq_true, Nat.testBit_two_pow, decide_eq_true_eq, ih]
      simp
    | false =>
      simp only [cond_false, ih]
      simp
theorem testBit_effMask {ops : List Oper} {k : Nat} : (effMask P ops).testBit k = true ↔ ∃ o, ops[k]? = some o ∧ isEff P o = true := by
  unfold effMask
  rw [testBit_effFrom]
  simp

theorem cntB_congr {f g : Nat → Bool} : ∀ {n : Nat}, (∀ k, k < n → f k = g k) → cntB f n = cntB g n
  | 0, _ => rfl
  | n + 1, h => by
    unfold cntB
    rw [h n (Nat.lt_succ_self n), cntB_congr fun k hk => h k (Nat.lt_succ_of_lt hk)]
theorem cntB_mono {f g : Nat → Bool} : ∀ {n : Nat}, (∀ k, k < n → f k = true → g k = true) → cntB f n ≤ cntB g n
  | 0, _ => Nat.le_refl _
  | n + 1, h => by
    have ih := cntB_mono (n := n) fun k hk => h k (Nat.lt_succ_of_lt hk)
    unfold cntB
    cases hf : f n with
    | false => cases g n <;> simp <;> omega
    | true => rw [h n (Nat.lt_succ_self n) hf]; simp; exact ih
theorem cntB_le (f : Nat → Bool) : ∀ n, cntB f n ≤ n
  | 0 => Nat.le_refl _
  | n + 1 => by
    have := cntB_le f n
    unfold cntB
    cases f n <;> simp <;> omega
theorem cntB_full {f : Nat → Bool} : ∀ {n : Nat}, cntB f n = n → ∀ k, k < n → f k = true
  | 0, _, k, hk => by omega
  | n + 1, h, k, hk => by
    have hle := cntB_le f n
    unfold cntB at h
    cases hf : f n with
    | false => rw [hf] at h; simp at h; omega
    | true =>
      rw [hf] at h; simp at h
      by_cases e : k = n
      · subst e; exact hf
      · exact cntB_full h k (by omega)
/-- One more. -/
theorem cntB_add {f g : Nat → Bool} {i : Nat} (hf : f i = false) (hg : g i = true) (hs : ∀ k, k ≠ i → g k = f k) : ∀ {n : Nat}, cntB g n = cntB f n + (if i < n then 1 else 0)
  | 0 => by simp [cntB]
  | n + 1 => by
    have ih := cntB_add hf hg hs (n := n)
    unfold cntB
    by_cases e : n = i
    · subst e
      rw [hf, hg, ih]; simp
    · rw [hs n e]
      cases f n with
      | true =>
        simp only [cond_true, ih]
        by_cases h : i < n
        · rw [if_pos h, if_pos (by omega)]
        · rw [if_neg h, if_neg (by omega)]
      | false =>
        simp only [cond_false, ih]
        by_cases h : i < n
        · rw [if_pos h, if_pos (by omega)]
        · rw [if_neg h, if_neg (by omega)]
/-- As many as below i. -/
theorem cntB_below {f g : Nat → Bool} {i : Nat} (h1 : ∀ k, k < i → g k = f k) (h2 : ∀ k, i ≤ k → g k = false) : ∀ {n : Nat}, i ≤ n → cntB g n = cntB f i
  | 0, h => by
    have : i = 0 := by omega
    subst this; rfl
  | n + 1, h => by
    by_cases e : i = n + 1
    · subst e; exact cntB_congr h1
    · have e2 : cntB g (n + 1) = cntB g n := by
        show (bif g n then _ else _) = _
        rw [h2 n (by omega)]; rfl
      rw [e2]
      exact cntB_below h1 h2 (by omega)

/-! What must stand ahead. -/
def edgesOf (b : List Nat) (o : Oper) : Nat := o.after.toList.foldl (fun s e => if Region.binds .any e then s ||| 2 ^ e.on ||| b.getD e.on 0 else s) 0
theorem testBit_edges (b : List Nat) (j : Nat) : ∀ (l : List Edge) (s : Nat),
    (l.foldl (fun s e => if Region.binds .any e then s ||| 2 ^ e.on ||| b.getD e.on 0 else s) s).testBit j = true ↔
      s.testBit j = true ∨ ∃ e ∈ l, Region.binds .any e = true ∧ (e.on = j ∨ (b.getD e.on 0).testBit j = true)
  | [], s => by simp
  | e :: l, s => by
    rw [List.foldl_cons, testBit_edges b j l]
    by_cases hb : Region.binds .any e = true
    · rw [if_pos hb]
      simp only [Nat.testBit_or, Bool.or_eq_true, Nat.testBit_two_pow, decide_eq_true_eq, List.mem_cons, exists_eq_or_imp, hb, true_and]
      rw [or_assoc, or_assoc, or_assoc]
    · rw [if_neg hb]
      simp only [List.mem_cons, exists_eq_or_imp, hb, false_and, false_or, Bool.false_eq_true]
def befStep (acc : List Nat) (o : Oper) : List Nat := acc ++ [edgesOf acc o]
theorem befores_eq (ops : List Oper) : befores ops = ops.foldl befStep [] := rfl
theorem bef_length : ∀ (l : List Oper) (acc : List Nat), (l.foldl befStep acc).length = acc.length + l.length
  | [], acc => by simp
  | o :: l, acc => by rw [List.foldl_cons, bef_length l]; simp [befStep]; omega
theorem bef_old : ∀ (l : List Oper) (acc : List Nat) (i : Nat), i < acc.length → (l.foldl befStep acc).getD i 0 = acc.getD i 0
  | [], acc, i, _ => rfl
  | o :: l, acc, i, h => by
    rw [List.foldl_cons, bef_old l _ i (by simp [befStep]; omega)]
    simp only [befStep, List.getD_eq_getElem?_getD]
    rw [List.getElem?_append_left h]
theorem bef_new : ∀ (l : List Oper) (acc : List Nat) (i : Nat) (o : Oper), l[i]? = some o → ∃ acc', (l.foldl befStep acc).getD (acc.length + i) 0 = edgesOf acc' o ∧ acc'.length = acc.length + i ∧ ∀ k, k < acc.length + i → (l.foldl befStep acc).getD k 0 = acc'.getD k 0
  | [], acc, i, o, h => by simp at h
  | o' :: l, acc, 0, o, h => by
    simp only [List.getElem?_cons_zero, Option.some.injEq] at h
    subst h
    refine ⟨acc, ?_, rfl, fun k hk => ?_⟩
    · rw [List.foldl_cons, bef_old l _ _ (by simp [befStep])]
      simp [befStep, List.getD_eq_getElem?_getD]
    · exact bef_old (o' :: l) acc k hk
  | o' :: l, acc, i + 1, o, h => by
    obtain ⟨acc', h1, h2, h3⟩ := bef_new l (befStep acc o') i o (by simpa using h)
    have hl : (befStep acc o').length = acc.length + 1 := by simp [befStep]
    rw [hl] at h1 h2 h3
    have e : acc.length + (i + 1) = acc.length + 1 + i := by omega
    exact ⟨acc', by rw [List.foldl_cons, e]; exact h1, by omega, fun k hk => by rw [List.foldl_cons]; exact h3 k (by omega)⟩

/-- The edges look back. -/
def Back (ops : List Oper) : Prop := ∀ i o, ops[i]? = some o → ∀ e ∈ o.after, Region.binds .any e = true → e.on < i

theorem testBit_bef {ops : List Oper} (hb : Back ops) {i : Nat} {o : Oper} (ho : ops[i]? = some o) (j : Nat) :
    ((befores ops).getD i 0).testBit j = true ↔ ∃ e ∈ o.after, Region.binds .any e = true ∧ (e.on = j ∨ ((befores ops).getD e.on 0).testBit j = true) := by
  obtain ⟨acc', h1, h2, h3⟩ := bef_new ops [] i o ho
  simp only [List.length_nil, Nat.zero_add] at h1 h2 h3
  rw [befores_eq, h1]
  unfold edgesOf
  rw [testBit_edges]
  simp only [Nat.zero_testBit, Bool.false_eq_true, false_or, Array.mem_toList_iff]
  constructor
  · rintro ⟨e, he, hbd, h⟩
    exact ⟨e, he, hbd, h.imp id fun h => by rw [h3 _ (hb i o ho e he hbd)]; exact h⟩
  · rintro ⟨e, he, hbd, h⟩
    exact ⟨e, he, hbd, h.imp id fun h => by rw [h3 _ (hb i o ho e he hbd)] at h; exact h⟩

/-- With each operation all that must stand ahead of it. -/
def Down (ops : List Oper) (S : Nat → Prop) : Prop := ∀ i o, S i → ops[i]? = some o → ∀ e ∈ o.after, Region.binds .any e = true → S e.on

theorem bef_in {ops : List Oper} (hb : Back ops) {S : Nat → Prop} (hS : Down ops S) : ∀ (n i : Nat), i < n → ∀ {o : Oper}, ops[i]? = some o → (∀ e ∈ o.after, Region.binds .any e = true → S e.on) →
    ∀ {j : Nat}, ((befores ops).getD i 0).testBit j = true → S j ∧ j < i
  | 0, i, hi, _, _, _, _, _ => by omega
  | n + 1, i, hi, o, ho, hr, j, hj => by
    obtain ⟨e, he, hbd, h⟩ := (testBit_bef hb ho j).1 hj
    have hlt := hb i o ho e he hbd
    have hse := hr e he hbd
    rcases h with rfl | h
    · exact ⟨hse, hlt⟩
    · have hex : e.on < ops.length := by
        have := (List.getElem?_eq_some_iff.1 ho).1; omega
      have := bef_in hb hS n e.on (by omega) (List.getElem?_eq_getElem hex) (fun e' he' hbd' => hS e.on _ hse (List.getElem?_eq_getElem hex) e' he' hbd') h
      exact ⟨this.1, by omega⟩
end
end Go.Ae
/- Operations look at their operands alone; equality of values; memories within memories. -/
set_option linter.unusedVariables false
set_option linter.unusedSimpArgs false
set_option maxHeartbeats 1000000
namespace Go.Ae
open Go

section
variable {P : Program} {fr fr' : T AVal}

theorem opdA_congr {x : Operand} (h : ∀ t, x = .tmp t → fr.get t = fr'.get t) : opdA fr x = opdA fr' x := by
  cases x with
  | tmp t => simp only [opdA, h t rfl]
  | _ => rfl
theorem opdsA_congr : ∀ {l : List Operand}, (∀ x ∈ l, opdA fr x = opdA fr' x) → opdsA fr l = opdsA fr' l
  | [], _ => rfl
  | x :: l, h => by simp only [opdsA, h x (List.mem_cons_self ..), opdsA_congr fun y hy => h y (List.mem_cons_of_mem _ hy)]
theorem partsA_congr : ∀ {l : List (Nat × Operand)}, (∀ x ∈ l, opdA fr x.2 = opdA fr' x.2) → partsA fr l = partsA fr' l
  | [], _ => rfl
  | (i, x) :: l, h => by
    simp only [partsA, h (i, x) (List.mem_cons_self ..), partsA_congr fun y hy => h y (List.mem_cons_of_mem _ hy)]
theorem optA_congr {x : Option Operand} (h : ∀ y, x = some y → opdA fr y = opdA fr' y) : optA fr x = optA fr' x := by
  cases x with
  | none => rfl
  | some y => simp only [optA, h y rfl]

theorem pureOp_congr {o : Oper} (h : ∀ x ∈ o.op.operands, opdA fr x = opdA fr' x) : pureOp P fr o = pureOp P fr' o := by
  obtain ⟨dst, op, type, pos, after, guard⟩ := o
  cases op <;> simp only [Op.operands] at h <;> simp only [pureOp]
  case build t ps =>
    unfold buildA
    rw [partsA_congr (fr := fr) (fr' := fr') fun x hx => h x.2 (by simp only [List.mem_toArray, List.mem_map]; exact ⟨x, hx, rfl⟩)]
  case makeFunc fn first captured =>
    rw [opdsA_congr (fr := fr) (fr' := fr') (l := first.toList) fun x hx => h x (by simp at hx; simp [hx]), opdsA_congr (fr := fr) (fr' := fr') (l := captured.toList) fun x hx => h x (by simp at hx; simp [hx])]
  case call c =>
    rw [opdsA_congr (fr := fr) (fr' := fr') (l := c.args.toList) fun x hx => h x (by simp at hx; simp [Call.operands, hx])]
  case slice t x lo hi mx =>
    rw [h x (by simp), optA_congr (fr := fr) (fr' := fr') (x := lo) fun y hy => h y (by simp [hy]), optA_congr (fr := fr) (fr' := fr') (x := hi) fun y hy => h y (by simp [hy]), optA_congr (fr := fr) (fr' := fr') (x := mx) fun y hy => h y (by simp [hy])]
  all_goals (first | rfl | (simp_all; done))

theorem readOp_congr {G : Nat → Option AVal} {hp : Hp} {o : Oper} (h : ∀ x ∈ o.op.operands, opdA fr x = opdA fr' x) : readOp P G fr hp o = readOp P G fr' hp o := by
  obtain ⟨dst, op, type, pos, after, guard⟩ := o
  cases op <;> simp only [Op.operands] at h <;> simp only [readOp]
  case call c =>
    rw [opdsA_congr (fr := fr) (fr' := fr') (l := c.args.toList) fun x hx => h x (by simp at hx; simp [Call.operands, hx])]
  case slice t x lo hi mx =>
    rw [h x (by simp), optA_congr (fr := fr) (fr' := fr') (x := lo) fun y hy => h y (by simp [hy]), optA_congr (fr := fr) (fr' := fr') (x := hi) fun y hy => h y (by simp [hy]), optA_congr (fr := fr) (fr' := fr') (x := mx) fun y hy => h y (by simp [hy])]
  all_goals (first | rfl | (simp_all; done))

theorem allocOp_congr {id : Nat} {o : Oper} (h : ∀ x ∈ o.op.operands, opdA fr x = opdA fr' x) : allocOp P fr id o = allocOp P fr' id o := by
  obtain ⟨dst, op, type, pos, after, guard⟩ := o
  cases op <;> simp only [Op.operands] at h <;> simp only [allocOp]
  case makeMap t r => cases r <;> rfl
  case buildSlice t n ps =>
    rw [partsA_congr (fr := fr) (fr' := fr') fun x hx => h x.2 (by simp only [List.mem_toArray, List.mem_map]; exact ⟨x, hx, rfl⟩)]
  all_goals (first | rfl | (simp_all; done))

theorem effOp_congr {hp : Hp} {o : Oper} (h : ∀ x ∈ o.op.operands, opdA fr x = opdA fr' x) : effOp P fr hp o = effOp P fr' hp o := by
  obtain ⟨dst, op, type, pos, after, guard⟩ := o
  cases op <;> simp only [Op.operands] at h <;> simp only [effOp]
  case call c =>
    rw [opdsA_congr (fr := fr) (fr' := fr') (l := c.args.toList) fun x hx => h x (by simp at hx; simp [Call.operands, hx])]
  case makeMap t r => cases r <;> simp_all
  case next it s => cases s <;> simp_all
  all_goals (first | rfl | (simp_all; done))

theorem targetA_congr {c : Call} (h : ∀ x ∈ c.operands, opdA fr x = opdA fr' x) : targetA P fr c = targetA P fr' c := by
  unfold targetA
  rw [opdsA_congr (fr := fr) (fr' := fr') (l := c.args.toList) fun x hx => h x (by simp at hx; simp [Call.operands, hx])]
  cases hc : c.callee with
  | value f => simp only [h f (by simp [Call.operands, hc])]
  | invoke r m => simp only [h r (by simp [Call.operands, hc])]
  | builtin b => rfl

variable {G : Nat → Option AVal} {H : Hook}
theorem evalOp_congr {n : Nat} {hp : Hp} {o : Oper} (h : ∀ x ∈ o.op.operands, opdA fr x = opdA fr' x) : evalOp P G H n fr hp o = evalOp P G H n fr' hp o := by
  cases n with
  | zero => simp only [evalOp]
  | succ n =>
    simp only [evalOp]
    rw [pureOp_congr h, readOp_congr h, allocOp_congr h, effOp_congr h]
    cases ho : o.op with
    | call c => simp only; rw [targetA_congr (fr := fr) (fr' := fr') fun x hx => h x (by rw [ho]; exact hx)]
    | binOp op t x y z => simp only; rw [h x (by rw [ho]; simp [Op.operands]), h y (by rw [ho]; simp [Op.operands])]
    | _ => rfl

theorem beqL_eq {n : Nat} (ih : ∀ a b, beqV n a b = true → a = b) : ∀ (l m : List AVal), beqV.beqL n l m = true → l = m
  | [], [], _ => rfl
  | a :: l, b :: m, h => by
    simp only [beqV.beqL, Bool.and_eq_true] at h
    rw [ih _ _ h.1, beqL_eq ih l m h.2]
  | [], _ :: _, h => by simp [beqV.beqL] at h
  | _ :: _, [], h => by simp [beqV.beqL] at h
theorem beqV_eq : ∀ (n : Nat) (a b : AVal), beqV n a b = true → a = b
  | 0, a, b, h => by simp [beqV] at h
  | n + 1, a, b, h => by
    have ih := beqV_eq n
    have ihl := beqL_eq ih
    cases a with
    | func fn x y =>
      cases b with
      | func gn u v =>
        simp only [beqV, Bool.and_eq_true, decide_eq_true_eq] at h
        obtain ⟨⟨h0, h1⟩, h2⟩ := h
        rw [h0, ihl _ _ h1, ihl _ _ h2]
      | _ => simp [beqV] at h
    | iface t v =>
      cases b with
      | iface u w =>
        simp only [beqV, Bool.and_eq_true, Nat.beq_eq_true_eq] at h
        obtain ⟨h0, h1⟩ := h
        rw [Nat.eq_of_beq_eq_true h0, ih _ _ h1]
      | _ => simp [beqV] at h
    | agg x =>
      cases b with
      | agg y => simp only [beqV] at h; rw [ihl _ _ h]
      | _ => simp [beqV] at h
    | tuple x =>
      cases b with
      | tuple y => simp only [beqV] at h; rw [ihl _ _ h]
      | _ => simp [beqV] at h
    | _ =>
      cases b with
      | func fn x y => simp [beqV] at h
      | _ => first | rfl | (simp [beqV] at h; done) | (simp only [beqV, Bool.and_eq_true, Nat.beq_eq_true_eq, beq_iff_eq] at h; simp_all; done) | (simp [beqV] at h; simp_all; done)
theorem beqV_refl : ∀ (n : Nat) (a : AVal), depA a < n → beqV n a a = true := by
  intro n
  induction n with
  | zero => intro a h; omega
  | succ n ih =>
    have ihl : ∀ l : List AVal, depL l < n ∨ l = [] → beqV.beqL n l l = true := by
      intro l
      induction l with
      | nil => intro _; rfl
      | cons x l il =>
        intro h
        have h : depL (x :: l) < n := by rcases h with h | h; exact h; cases h
        have e : depL (x :: l) = Nat.max (depA x) (depL l) := by simp [depL]
        rw [e] at h
        have h1 : depA x < n := Nat.lt_of_le_of_lt (Nat.le_max_left _ _) h
        have h2 : depL l < n := Nat.lt_of_le_of_lt (Nat.le_max_right _ _) h
        simp only [beqV.beqL, Bool.and_eq_true]
        exact ⟨ih x h1, il (.inl h2)⟩
    intro a h
    cases a with
    | func f x y =>
      have e : depA (.func f x y) = Nat.max (depL x) (depL y) + 1 := by simp [depA]
      rw [e] at h
      have h0 : Nat.max (depL x) (depL y) < n := Nat.lt_of_succ_lt_succ h
      have h1 : depL x < n := Nat.lt_of_le_of_lt (Nat.le_max_left (depL x) (depL y)) h0
      have h2 : depL y < n := Nat.lt_of_le_of_lt (Nat.le_max_right (depL x) (depL y)) h0
      simp [beqV, ihl x (.inl h1), ihl y (.inl h2)]
    | iface t v => simp [depA] at h; simp [beqV, ih v h]
    | agg l => simp [depA] at h; simp [beqV, ihl l (.inl h)]
    | tuple l => simp [depA] at h; simp [beqV, ihl l (.inl h)]
    | _ => simp [beqV]
end

section
variable {E : Env} {β : Beta} {h hh : Hp} {w : World}
/-- A smaller memory stands to the world as well. -/
theorem Rel.sub (r : Rel E β hh w) (hs : ∀ b x, h.get b = some x → hh.get b = some x) (hn : h.next = hh.next) : Rel E β h w where
  blk := fun b x hx => by rw [hn]; exact r.blk b x (hs b x hx)
  inj := fun b b' x x' L L' h1 h2 => r.inj b b' x x' L L' (hs _ _ h1) (hs _ _ h2)
  fresh := fun b hb => r.fresh b (by rw [← hn]; exact hb)
  glob := r.glob
  size := r.size

/-- What a step leaves alone stands beside it as before. -/
theorem Rel.frame (r : Rel E β hh w) (hs : ∀ b x, h.get b = some x → hh.get b = some x) (hn : h.next = hh.next) {β' : Beta} {h' hh' : Hp} {w' : World} (r' : Rel E β' h' w') (f : Frm β h w β' h' w')
    (hn' : hh'.next = h'.next) (hg : ∀ b x, hh'.get b = some x → h'.get b = some x ∨ (hh.get b = some x ∧ h.get b = none)) : Rel E β' hh' w' where
  blk := fun b x hx => by
    rw [hn']
    rcases hg b x hx with h1 | ⟨h1, h2⟩
    · exact r'.blk b x h1
    · obtain ⟨hlt, L, o, hL, hb, ho, hB⟩ := r.blk b x h1
      refine ⟨by have := f.next; omega, L, o, by rw [f.ext b (by omega)]; exact hL, hb, ?_, hB.mono (f.Ext (r.sub hs hn))⟩
      rw [f.same L.blk (Array.getElem?_eq_some_iff.1 ho).1 ?_]
      · exact ho
      · intro b0 x0 L0 h3 h4 e
        have := r.inj b0 b x0 x L0 L (hs _ _ h3) h1 h4 hL e
        subst this
        rw [h2] at h3; cases h3
  inj := fun b b' x x' L L' h1 h2 hL hL' e => by
    have side : ∀ b b' x x' L L', h'.get b = some x → hh.get b' = some x' → h.get b' = none → β' b = some L → β' b' = some L' → L.blk = L'.blk → False := by
      intro b b' x x' L L' h1 h2 h3 hL hL' e
      obtain ⟨hlt, L1, o, hL1, _, ho, _⟩ := r.blk b' x' h2
      have : L' = L1 := by
        rw [f.ext b' (by omega)] at hL'; rw [hL'] at hL1; cases hL1; rfl
      subst this
      obtain ⟨b0, x0, L0, h5, h6, h7⟩ := f.range b x L h1 hL (by rw [e]; exact (Array.getElem?_eq_some_iff.1 ho).1)
      have := r.inj b0 b' x0 x' L0 L' (hs _ _ h5) h2 h6 hL1 (by rw [h7, e])
      subst this
      rw [h3] at h5; cases h5
    rcases hg b x h1 with p1 | ⟨p1, p2⟩
    · rcases hg b' x' h2 with q1 | ⟨q1, q2⟩
      · exact r'.inj b b' x x' L L' p1 q1 hL hL' e
      · exact (side b b' x x' L L' p1 q1 q2 hL hL' e).elim
    · rcases hg b' x' h2 with q1 | ⟨q1, q2⟩
      · exact (side b' b x' x L' L q1 p1 p2 hL' hL e.symm).elim
      · have hb1 := (r.blk b x p1).1
        have hb2 := (r.blk b' x' q1).1
        rw [f.ext b (by omega)] at hL
        rw [f.ext b' (by omega)] at hL'
        exact r.inj b b' x x' L L' p1 q1 hL hL' e
  fresh := fun b hb => r'.fresh b (by rw [← hn']; exact hb)
  glob := r'.glob
  size := r'.size

theorem Frm.frame (r : Rel E β hh w) (hs : ∀ b x, h.get b = some x → hh.get b = some x) (hn : h.next = hh.next) {β' : Beta} {h' hh' : Hp} {w' : World} (f : Frm β h w β' h' w')
    (hn' : hh'.next = h'.next) (hg : ∀ b x, hh'.get b = some x → h'.get b = some x ∨ (hh.get b = some x ∧ h.get b = none)) : Frm β hh w β' hh' w' where
  next := by rw [hn', ← hn]; exact f.next
  ext := fun b hb => f.ext b (by rw [hn]; exact hb)
  size := f.size
  same := fun k hk hno => f.same k hk fun b x L h1 h2 => hno b x L (hs _ _ h1) h2
  range := fun b x L hx hL hlt => by
    rcases hg b x hx with p | ⟨p, q⟩
    · obtain ⟨b0, x0, L0, h1, h2, h3⟩ := f.range b x L p hL hlt
      exact ⟨b0, x0, L0, hs _ _ h1, h2, h3⟩
    · refine ⟨b, x, L, p, ?_, rfl⟩
      rw [← f.ext b (by have := (r.blk b x p).1; omega)]; exact hL
  dom := fun b hb hnone => by
    cases hx : hh'.get b with
    | none => rfl
    | some x =>
      rcases hg b x hx with p | ⟨p, _⟩
      · have : h.get b = none := by
          cases hy : h.get b with
          | none => rfl
          | some y => rw [hs _ _ hy] at hnone; cases hnone
        rw [f.dom b (by rw [hn]; exact hb) this] at p; cases p
      · rw [hnone] at p; cases p
  os := f.os
  tape := f.tape
  output := f.output

theorem exists_puts (h : Hp) (base : Nat) (f : Nat → Option Blk) : ∀ n, ∃ h' : Hp, h'.next = h.next ∧ ∀ b, h'.get b = ((if base ≤ b ∧ b < base + n then f (b - base) else none).orElse fun _ => h.get b)
  | 0 => ⟨h, rfl, fun b => by rw [if_neg (by omega)]; rfl⟩
  | n + 1 => by
    obtain ⟨h', h1, h2⟩ := exists_puts h base f n
    cases hf : f n with
    | none =>
      refine ⟨h', h1, fun b => ?_⟩
      rw [h2]
      by_cases e : b = base + n
      · subst e
        rw [if_neg (by omega), if_pos (by omega)]
        have : base + n - base = n := by omega
        rw [this, hf]
      · by_cases h3 : base ≤ b ∧ b < base + n
        · rw [if_pos h3, if_pos (by omega)]
        · rw [if_neg h3, if_neg (by omega)]
    | some x =>
      refine ⟨h'.put (base + n) x, h1, fun b => ?_⟩
      rw [Hp.get_put]
      by_cases e : base + n = b
      · subst e
        rw [if_pos rfl, if_pos (by omega)]
        have : base + n - base = n := by omega
        rw [this, hf]; rfl
      · rw [if_neg e, h2]
        by_cases h3 : base ≤ b ∧ b < base + n
        · rw [if_pos h3, if_pos (by omega)]
        · rw [if_neg h3, if_neg (by omega)]
end
end Go.Ae
/- The text's order of a region, as a row of states. -/
set_option linter.unusedVariables false
set_option linter.unusedSimpArgs false
set_option maxHeartbeats 1000000
namespace Go.Ae
open Go

section
variable (P : Program) (G : Nat → Option AVal) (H : Hook) (nmax : Nat) (ops : List Oper) (p : Plan)

inductive StepD (i : Nat) (o : Oper) (s : DS) : DS → AVal → Option Blk → Prop where
  | skip (hw : wantedA ops s.fr o = false) : StepD i o s ⟨putA s.fr o.dst .undef, s.h, s.pend, if isEff P o = true then s.hs ++ [s.h] else s.hs, s.rds⟩ .undef none
  | pure (hw : wantedA ops s.fr o = true) (hk : kindOf P o = .pure) {v : AVal} (hv : pureOp P s.fr o = some v) : StepD i o s ⟨putA s.fr o.dst v, s.h, s.pend, s.hs, s.rds⟩ v none
  | read (hw : wantedA ops s.fr o = true) (hk : kindOf P o = .read) {v : AVal} (hv : readOp P G s.fr s.h o = some v) :
      StepD i o s ⟨putA s.fr o.dst v, s.h, s.pend, s.hs, ⟨o, s.fr, v, (p.ws.getD i (0, 0)).1, (p.ws.getD i (0, 0)).2⟩ :: s.rds⟩ v none
  | alloc (hw : wantedA ops s.fr o = true) (hk : kindOf P o = .alloc) {v : AVal} {b : Blk} (hv : allocOp P s.fr (p.base + i) o = some (v, b)) :
      StepD i o s ⟨putA s.fr o.dst v, s.h, (i, b) :: s.pend, s.hs, s.rds⟩ v (some b)
  | eff (hw : wantedA ops s.fr o = true) (hk : kindOf P o = .eff) {v : AVal} {h' : Hp} {k : Nat} (hlt : k < nmax) (hv : evalOp P G H k s.fr (publish p.base (p.pre.getD i 0) s.pend s.h) o = some (v, h')) :
      StepD i o s ⟨putA s.fr o.dst v, h', s.pend.filter fun x => !(p.pre.getD i 0).testBit x.1, s.hs ++ [s.h], s.rds⟩ v none

variable {P G H nmax ops p}
theorem trace : ∀ (n : Nat), n ≤ nmax → ∀ (l : List Oper) (i : Nat) (s sF : DS), evalDraw P G H n ops l p i s = some sF →
    ∃ (st : Nat → DS) (res : Nat → AVal) (blk : Nat → Option Blk), st i = s ∧ st (i + l.length) = sF ∧
      ∀ k o, l[k]? = some o → StepD P G H nmax ops p (i + k) o (st (i + k)) (st (i + k + 1)) (res (i + k)) (blk (i + k))
  | 0, _, l, i, s, sF, he => by simp [evalDraw] at he
  | n + 1, hn, [], i, s, sF, he => by
    simp only [evalDraw, Option.some.injEq] at he
    subst he
    exact ⟨fun _ => s, fun _ => .undef, fun _ => none, rfl, rfl, fun k o h => by simp at h⟩
  | n + 1, hn, o :: l, i, s, sF, he => by
    have go : ∀ (s1 : DS) (v : AVal) (ob : Option Blk), StepD P G H nmax ops p i o s s1 v ob → evalDraw P G H n ops l p (i + 1) s1 = some sF →
        ∃ (st : Nat → DS) (res : Nat → AVal) (blk : Nat → Option Blk), st i = s ∧ st (i + (o :: l).length) = sF ∧
          ∀ k o', (o :: l)[k]? = some o' → StepD P G H nmax ops p (i + k) o' (st (i + k)) (st (i + k + 1)) (res (i + k)) (blk (i + k)) := by
      intro s1 v ob hstep hev
      obtain ⟨st, res, blk, h1, h2, h3⟩ := trace n (by omega) l (i + 1) s1 sF hev
      refine ⟨fun j => if j = i then s else st j, fun j => if j = i then v else res j, fun j => if j = i then ob else blk j, by simp, ?_, ?_⟩
      · have : i + (o :: l).length = i + 1 + l.length := by simp; omega
        rw [this]
        simp only
        rw [if_neg (by omega)]; exact h2
      · intro k o' hk
        cases k with
        | zero =>
          simp only [List.getElem?_cons_zero, Option.some.injEq] at hk
          subst hk
          simp only [Nat.add_zero, if_pos]
          rw [if_neg (by omega), h1]
          exact hstep
        | succ k =>
          have := h3 k o' (by simpa using hk)
          have e : i + 1 + k = i + (k + 1) := by omega
          rw [e] at this
          simp only
          rw [if_neg (by omega), if_neg (by omega), if_neg (by omega), if_neg (by omega)]
          exact this
    unfold evalDraw at he
    cases hw : wantedA ops s.fr o with
    | false =>
      rw [hw, cond_false] at he
      have hs := StepD.skip (P := P) (G := G) (H := H) (nmax := nmax) (p := p) (i := i) hw
      split at he
      · rename_i hk
        rw [if_pos (by unfold isEff; rw [hk])] at hs
        exact go _ _ _ hs he
      · rename_i hk
        rw [if_neg (fun h => by unfold isEff at h; cases hk' : kindOf P o <;> rw [hk'] at h <;> first | (cases h; done) | exact hk hk')] at hs
        exact go _ _ _ hs he
    | true =>
      rw [hw, cond_true] at he
      split at he
      · rename_i hk
        split at he
        · rename_i v hv; exact go _ _ _ (.pure hw hk hv) he
        · cases he
      · rename_i hk
        split at he
        · rename_i v hv; exact go _ _ _ (.read hw hk hv) he
        · cases he
      · rename_i hk
        split at he
        · rename_i v b hv; exact go _ _ _ (.alloc hw hk hv) he
        · cases he
      · rename_i hk
        split at he
        · rename_i v h' hv; exact go _ _ _ (.eff hw hk (by omega) hv) he
        · cases he

open Classical in
theorem publish_get {base mask : Nat} : ∀ {l : List (Nat × Blk)} {h : Hp} {f : Nat → Option Blk}, (∀ j b, (j, b) ∈ l → f j = some b) →
    (publish base mask l h).next = h.next ∧ ∀ x, (publish base mask l h).get x = ((if base ≤ x ∧ mask.testBit (x - base) = true ∧ (∃ b, (x - base, b) ∈ l) then f (x - base) else none).orElse fun _ => h.get x)
  | [], h, f, hf => ⟨rfl, fun x => by rw [if_neg (by simp)]; rfl⟩
  | (i, b) :: l, h, f, hf => by
    have ih := publish_get (base := base) (mask := mask) (l := l) (h := h) (f := f) fun j b hj => hf j b (List.mem_cons_of_mem _ hj)
    unfold publish
    cases hb : mask.testBit i with
    | true =>
      refine ⟨ih.1, fun x => ?_⟩
      rw [cond_true, Hp.get_put]
      by_cases e : base + i = x
      · subst e
        have e2 : base + i - base = i := by omega
        rw [if_pos rfl, e2, if_pos ⟨by omega, hb, b, List.mem_cons_self ..⟩, hf i b (List.mem_cons_self ..)]; rfl
      · rw [if_neg e, ih.2]
        by_cases h3 : base ≤ x ∧ mask.testBit (x - base) = true ∧ ∃ b, (x - base, b) ∈ l
        · rw [if_pos h3, if_pos ⟨h3.1, h3.2.1, h3.2.2.imp fun _ h => List.mem_cons_of_mem _ h⟩]
        · rw [if_neg h3, if_neg]
          rintro ⟨h4, h5, b', h6⟩
          rcases List.mem_cons.1 h6 with h7 | h7
          · have := (Prod.mk.inj h7).1; omega
          · exact h3 ⟨h4, h5, b', h7⟩
    | false =>
      refine ⟨ih.1, fun x => ?_⟩
      rw [cond_false, ih.2]
      by_cases h3 : base ≤ x ∧ mask.testBit (x - base) = true ∧ ∃ b, (x - base, b) ∈ l
      · rw [if_pos h3, if_pos ⟨h3.1, h3.2.1, h3.2.2.imp fun _ h => List.mem_cons_of_mem _ h⟩]
      · rw [if_neg h3, if_neg]
        rintro ⟨h4, h5, b', h6⟩
        rcases List.mem_cons.1 h6 with h7 | h7
        · have := (Prod.mk.inj h7).1; rw [this, hb] at h5; cases h5
        · exact h3 ⟨h4, h5, b', h7⟩
open Classical in
theorem publishAll_get {base : Nat} : ∀ {l : List (Nat × Blk)} {h : Hp} {f : Nat → Option Blk}, (∀ j b, (j, b) ∈ l → f j = some b) →
    (publishAll base l h).next = h.next ∧ ∀ x, (publishAll base l h).get x = ((if base ≤ x ∧ (∃ b, (x - base, b) ∈ l) then f (x - base) else none).orElse fun _ => h.get x)
  | [], h, f, hf => ⟨rfl, fun x => by rw [if_neg (by simp)]; rfl⟩
  | (i, b) :: l, h, f, hf => by
    have ih := publishAll_get (base := base) (l := l) (h := h) (f := f) fun j b hj => hf j b (List.mem_cons_of_mem _ hj)
    unfold publishAll
    refine ⟨ih.1, fun x => ?_⟩
    rw [Hp.get_put]
    by_cases e : base + i = x
    · subst e
      have e2 : base + i - base = i := by omega
      rw [if_pos rfl, e2, if_pos ⟨by omega, b, List.mem_cons_self ..⟩, hf i b (List.mem_cons_self ..)]; rfl
    · rw [if_neg e, ih.2]
      by_cases h3 : base ≤ x ∧ ∃ b, (x - base, b) ∈ l
      · rw [if_pos h3, if_pos ⟨h3.1, h3.2.imp fun _ h => List.mem_cons_of_mem _ h⟩]
      · rw [if_neg h3, if_neg]
        rintro ⟨h4, b', h6⟩
        rcases List.mem_cons.1 h6 with h7 | h7
        · have := (Prod.mk.inj h7).1; omega
        · exact h3 ⟨h4, b', h7⟩

theorem StepD.fr_eq {i : Nat} {o : Oper} {s s' : DS} {v : AVal} {ob : Option Blk} (h : StepD P G H nmax ops p i o s s' v ob) : s'.fr = putA s.fr o.dst v := by cases h <;> rfl
theorem StepD.pfx {i : Nat} {o : Oper} {s s' : DS} {v : AVal} {ob : Option Blk} (h : StepD P G H nmax ops p i o s s' v ob) :
    (s'.hs.length = s.hs.length + (if isEff P o = true then 1 else 0)) ∧ (s.hs ++ [s.h]) <+: (s'.hs ++ [s'.h]) := by
  have ne : ∀ {k : Kind}, kindOf P o = k → k ≠ .eff → ¬ isEff P o = true := by
    intro k hk hne h
    unfold isEff at h; rw [hk] at h; cases k <;> first | exact hne rfl | (cases h; done)
  cases h with
  | skip hw =>
    split
    · exact ⟨by simp, List.prefix_append _ _⟩
    · exact ⟨rfl, List.prefix_refl _⟩
  | pure hw hk hv => exact ⟨by rw [if_neg (ne hk (by simp))]; rfl, List.prefix_refl _⟩
  | read hw hk hv => exact ⟨by rw [if_neg (ne hk (by simp))]; rfl, List.prefix_refl _⟩
  | alloc hw hk hv => exact ⟨by rw [if_neg (ne hk (by simp))]; rfl, List.prefix_refl _⟩
  | eff hw hk hlt hv => exact ⟨by rw [if_pos (by unfold isEff; rw [hk])]; simp, List.prefix_append _ _⟩
theorem StepD.rds_mem {i : Nat} {o : Oper} {s s' : DS} {v : AVal} {ob : Option Blk} (h : StepD P G H nmax ops p i o s s' v ob) {r : Rd} (hr : r ∈ s.rds) : r ∈ s'.rds := by
  cases h with
  | read hw hk hv => exact List.mem_cons_of_mem _ hr
  | _ => exact hr
/-- Is the operation an effect that takes place? -/
def StepD.EffW (P : Program) (ops : List Oper) (o : Oper) (s : DS) : Prop := wantedA ops s.fr o = true ∧ kindOf P o = .eff
theorem StepD.pend_iff {i : Nat} {o : Oper} {s s' : DS} {v : AVal} {ob : Option Blk} (h : StepD P G H nmax ops p i o s s' v ob) (j : Nat) (b : Blk) :
    (j, b) ∈ s'.pend ↔ ((j, b) ∈ s.pend ∧ (StepD.EffW P ops o s → (p.pre.getD i 0).testBit j = false)) ∨ (j = i ∧ ob = some b) := by
  cases h with
  | skip hw => simp [StepD.EffW, hw]
  | pure hw hk hv => simp [StepD.EffW, hk]
  | read hw hk hv => simp [StepD.EffW, hk]
  | alloc hw hk hv =>
    simp only [StepD.EffW, hk, List.mem_cons, Prod.mk.injEq, Option.some.injEq]
    constructor
    · rintro (⟨rfl, rfl⟩ | h)
      · exact .inr ⟨rfl, rfl⟩
      · exact .inl ⟨h, fun h => by cases h.2⟩
    · rintro (⟨h, _⟩ | ⟨rfl, rfl⟩)
      · exact .inr h
      · exact .inl ⟨rfl, rfl⟩
  | eff hw hk hlt hv => simp [StepD.EffW, hw, hk, List.mem_filter]
end
end Go.Ae
/- A region in any order: what holds on the way. -/
set_option linter.unusedVariables false
set_option linter.unusedSimpArgs false
set_option maxHeartbeats 1000000
namespace Go.Ae
open Go

/-- A region's text, laid out: the row of states, what each operation gives, which block it makes. -/
structure Cx where
  P : Program
  E : Env
  H : Hook
  nmax : Nat
  ops : Array Oper
  p : Plan
  m : Nat
  N : Nat
  st : Nat → DS
  res : Nat → AVal
  blk : Nat → Option Blk
  fr0 : T AVal
  cf : Nat → T AVal
  h0 : Hp
  β0 : Beta
  w0 : World
namespace Cx
variable (c : Cx)
def l : List Oper := c.ops.toList
def n : Nat := c.ops.size
def pre (k : Nat) : Nat := (befores c.l).getD k 0
def em : Nat := effMask c.P c.l
def HS : List Hp := (c.st c.m).hs ++ [(c.st c.m).h]
def Ew (k : Nat) : Prop := ∃ o, c.l[k]? = some o ∧ StepD.EffW c.P c.l o (c.st k)

structure Ok : Prop where
  hop : ∀ k < c.nmax, OpSound c.P c.E c.H k
  back : Back c.l
  hpre : c.p.pre = befores c.l
  hws : c.p.ws = windows c.P c.l
  mle : c.m ≤ c.n
  chain : ∀ i j, i < j → j < c.m → c.em.testBit i = true → c.em.testBit j = true → (c.pre j).testBit i = true
  once : ∀ (i j : Nat) (oi oj : Oper) (d : Tmp), c.l[i]? = some oi → c.l[j]? = some oj → i ≠ j → oi.dst = some d → oj.dst ≠ some d ∧ (d ∈ looksA c.l oj → (c.pre j).testBit i = true ∨ (c.pre i).testBit j = true)
  self : ∀ (i : Nat) (o : Oper) (d : Tmp), c.l[i]? = some o → o.dst = some d → d ∉ looksA c.l o
  fits : ∀ (i : Nat) (o : Oper) (d : Tmp), c.l[i]? = some o → o.dst = some d → d < c.N
  cf0 : c.cf 0 = c.fr0
  cfs : ∀ (i : Nat) (o : Oper), c.l[i]? = some o → c.cf (i + 1) = putA (c.cf i) o.dst (c.res i)
  stcf : ∀ i, i ≤ c.m → (c.st i).fr = c.cf i
  s0h : (c.st 0).h = ⟨c.h0.t, c.h0.next + c.n⟩
  s0hs : (c.st 0).hs = []
  s0pend : (c.st 0).pend = []
  step : ∀ (i : Nat) (o : Oper), i < c.m → c.l[i]? = some o → StepD c.P c.E.G c.H c.nmax c.l c.p i o (c.st i) (c.st (i + 1)) (c.res i) (c.blk i)
  agr : ∀ r ∈ (c.st c.m).rds, agree c.P c.E.G c.HS r = true
  base : c.p.base = c.h0.next
  rel0 : Rel c.E c.β0 c.h0 c.w0

def FrSpec (S : Nat → Prop) (fr : T AVal) : Prop :=
  (∀ (j : Nat) (o : Oper) (d : Tmp), S j → c.l[j]? = some o → o.dst = some d → fr.get d = some (c.res j)) ∧ (∀ (t : Tmp), (∀ (j : Nat) (o : Oper), S j → c.l[j]? = some o → o.dst ≠ some t) → fr.get t = c.fr0.get t)

variable {c}
theorem Ok.op (k : c.Ok) {i : Nat} (h : i < c.n) : ∃ o, c.l[i]? = some o := ⟨_, List.getElem?_eq_getElem (by simpa [l, n] using h)⟩
theorem Ok.lt (k : c.Ok) {i : Nat} {o : Oper} (h : c.l[i]? = some o) : i < c.n := by
  have := (List.getElem?_eq_some_iff.1 h).1; simpa [l, n] using this

theorem Ok.pre_lt (k : c.Ok) {i j : Nat} {o : Oper} (ho : c.l[i]? = some o) (h : (c.pre i).testBit j = true) : j < i :=
  (bef_in k.back (S := fun _ => True) (fun _ _ _ _ _ _ _ => trivial) (i + 1) i (by omega) ho (fun _ _ _ => trivial) h).2

theorem FrSpec.put (k : c.Ok) {S S' : Nat → Prop} {fr : T AVal} (h : c.FrSpec S fr) {i : Nat} {o : Oper} (ho : c.l[i]? = some o) (hi : ¬ S i) (hS : ∀ j, S' j ↔ S j ∨ j = i) : c.FrSpec S' (putA fr o.dst (c.res i)) := by
  cases hd : o.dst with
  | none =>
    refine ⟨fun j o' d hj ho' hd' => ?_, fun t ht => h.2 t fun j o' hj => ht j o' ((hS j).2 (.inl hj))⟩
    rcases (hS j).1 hj with hj | rfl
    · exact h.1 j o' d hj ho' hd'
    · rw [ho] at ho'; cases ho'; rw [hd] at hd'; cases hd'
  | some d =>
    refine ⟨fun j o' d' hj ho' hd' => ?_, fun t ht => ?_⟩
    · simp only [putA, T.get_set]
      rcases (hS j).1 hj with hj | rfl
      · have hne : i ≠ j := fun e => hi (e ▸ hj)
        have := (k.once i j o o' d ho ho' hne hd).1
        rw [if_neg (fun e => this (by rw [hd', e]))]
        exact h.1 j o' d' hj ho' hd'
      · rw [ho] at ho'; cases ho'; rw [hd] at hd'; cases hd'; rw [if_pos rfl]
    · simp only [putA, T.get_set]
      rw [if_neg (fun e => ht i o ((hS i).2 (.inr rfl)) ho (by rw [hd, e]))]
      exact h.2 t fun j o' hj => ht j o' ((hS j).2 (.inl hj))

theorem Ok.canon (k : c.Ok) : ∀ i, i ≤ c.n → c.FrSpec (fun j => j < i) (c.cf i)
  | 0, _ => by rw [k.cf0]; exact ⟨fun j o d hj => by omega, fun t _ => rfl⟩
  | i + 1, hi => by
    obtain ⟨o, ho⟩ := k.op (i := i) (by omega)
    rw [k.cfs i o ho]
    exact (k.canon i (by omega)).put k ho (by omega) fun j => by omega

theorem Ok.hs_len (k : c.Ok) : ∀ i, i ≤ c.m → (c.st i).hs.length = cntB (fun j => c.em.testBit j) i
  | 0, _ => by rw [k.s0hs]; rfl
  | i + 1, hi => by
    obtain ⟨o, ho⟩ := k.op (i := i) (by have := k.mle; omega)
    rw [(k.step i o (by omega) ho).pfx.1, k.hs_len i (by omega)]
    show _ = bif c.em.testBit i then cntB (fun j => c.em.testBit j) i + 1 else cntB (fun j => c.em.testBit j) i
    have : c.em.testBit i = isEff c.P o := by
      rw [Bool.eq_iff_iff, em, testBit_effMask]
      constructor
      · rintro ⟨o', h1, h2⟩; rw [ho] at h1; cases h1; exact h2
      · intro h; exact ⟨o, ho, h⟩
    rw [this]
    cases isEff c.P o <;> simp
theorem Ok.hs_pre (k : c.Ok) : ∀ d i, i + d = c.m → ((c.st i).hs ++ [(c.st i).h]) <+: c.HS
  | 0, i, h => by
    have : i = c.m := by omega
    subst this; exact List.prefix_refl _
  | d + 1, i, h => by
    obtain ⟨o, ho⟩ := k.op (i := i) (by have := k.mle; omega)
    exact List.IsPrefix.trans (k.step i o (by omega) ho).pfx.2 (k.hs_pre d (i + 1) (by omega))
theorem Ok.heap_at (k : c.Ok) {i : Nat} (hi : i ≤ c.m) : c.HS[cntB (fun j => c.em.testBit j) i]? = some (c.st i).h := by
  obtain ⟨t, ht⟩ := k.hs_pre (c.m - i) i (by omega)
  rw [← ht, ← k.hs_len i hi, List.append_assoc]
  simp
theorem Ok.rds_at (k : c.Ok) {r : Rd} : ∀ d i, i + d = c.m → r ∈ (c.st i).rds → r ∈ (c.st c.m).rds
  | 0, i, h, hr => by
    have : i = c.m := by omega
    subst this; exact hr
  | d + 1, i, h, hr => by
    obtain ⟨o, ho⟩ := k.op (i := i) (by have := k.mle; omega)
    exact k.rds_at d (i + 1) (by omega) ((k.step i o (by omega) ho).rds_mem hr)
theorem Ok.pend_at (k : c.Ok) : ∀ i, i ≤ c.m → ∀ j b, (j, b) ∈ (c.st i).pend ↔ j < i ∧ c.blk j = some b ∧ ∀ q, q < i → c.Ew q → (c.pre q).testBit j = false
  | 0, _, j, b => by rw [k.s0pend]; simp
  | i + 1, hi, j, b => by
    obtain ⟨o, ho⟩ := k.op (i := i) (by have := k.mle; omega)
    have hpre : c.p.pre.getD i 0 = c.pre i := by rw [k.hpre]; rfl
    rw [(k.step i o (by omega) ho).pend_iff, k.pend_at i (by omega), hpre]
    have hew : StepD.EffW c.P c.l o (c.st i) ↔ c.Ew i := ⟨fun h => ⟨o, ho, h⟩, fun ⟨o', h1, h2⟩ => by rw [ho] at h1; cases h1; exact h2⟩
    rw [hew]
    constructor
    · rintro (⟨⟨h1, h2, h3⟩, h4⟩ | ⟨rfl, h2⟩)
      · refine ⟨by omega, h2, fun q hq he => ?_⟩
        by_cases e : q = i
        · subst e; exact h4 he
        · exact h3 q (by omega) he
      · refine ⟨by omega, h2, fun q hq he => ?_⟩
        cases hb : (c.pre q).testBit j with
        | false => rfl
        | true =>
          obtain ⟨o', ho', _⟩ := he
          have := k.pre_lt ho' hb; omega
    · rintro ⟨h1, h2, h3⟩
      by_cases e : j = i
      · exact .inr ⟨e, by subst e; exact h2⟩
      · exact .inl ⟨⟨by omega, h2, fun q hq => h3 q (by omega)⟩, h3 i (by omega)⟩

/-! An order under way. -/
def isL (listed : Array Bool) (j : Nat) : Prop := listed.getD j false = true
theorem isL_set {listed : Array Bool} {i j : Nat} (hi : i < listed.size) : isL (listed.setIfInBounds i true) j ↔ isL listed j ∨ j = i := by
  unfold isL
  by_cases e : i = j
  · subst e; simp [hi]
  · simp [Array.getElem?_setIfInBounds_ne e, Ne.symm e]

/-- Which operations may go next. -/
structure Next (c : Cx) (listed : Array Bool) (i : Nat) (o : Oper) : Prop where
  no : ¬ isL listed i
  op : c.l[i]? = some o
  edges : ∀ e ∈ o.after, Region.binds .any e = true → isL listed e.on

theorem next_of_ready (k : c.Ok) {listed : Array Bool} (hsz : listed.size = c.n) {i : Nat} (h : i ∈ Region.ready .any c.ops listed) : ∃ o, Next c listed i o := by
  obtain ⟨h1, o, h2, h3⟩ := mem_ready.1 h
  have hlt : i < listed.size := by rw [hsz]; exact (Array.getElem?_eq_some_iff.1 h2).1
  refine ⟨o, ?_, by rw [l, Array.getElem?_toList]; exact h2, h3⟩
  unfold isL
  simp [Array.getD, hlt] at h1 ⊢
  exact h1

structure Inv1 (c : Cx) (listed : Array Bool) : Prop where
  size : listed.size = c.n
  down : Down c.l (isL listed)
structure Inv0 (c : Cx) (listed : Array Bool) : Prop extends Inv1 c listed where
  head : ∀ j, isL listed j → j < c.m

theorem Next.pre_in (k : c.Ok) {listed : Array Bool} (v : Inv1 c listed) {i : Nat} {o : Oper} (x : Next c listed i o) {j : Nat} (h : (c.pre i).testBit j = true) : isL listed j ∧ j < i :=
  bef_in k.back v.down (i + 1) i (by omega) x.op x.edges h
theorem Next.not_pre (k : c.Ok) {listed : Array Bool} (v : Inv1 c listed) {i : Nat} {o : Oper} (x : Next c listed i o) {q : Nat} (hq : isL listed q) : (c.pre q).testBit i = false := by
  cases hb : (c.pre q).testBit i with
  | false => rfl
  | true =>
    have hqn : q < c.n := by
      rcases Nat.lt_or_ge q listed.size with h | h
      · rw [v.size] at h; exact h
      · unfold isL at hq; simp [Array.getD, Nat.not_lt.2 h] at hq
    obtain ⟨oq, hoq⟩ := k.op (i := q) hqn
    exact absurd (bef_in k.back v.down (q + 1) q (by omega) hoq (fun e he hbd => v.down q oq hq hoq e he hbd) hb).1 x.no

theorem Next.advance1 (k : c.Ok) {listed : Array Bool} (v : Inv1 c listed) {i : Nat} {o : Oper} (x : Next c listed i o) : Inv1 c (listed.setIfInBounds i true) := by
  have hlt : i < listed.size := by rw [v.size]; exact k.lt x.op
  refine ⟨by simp [v.size], fun j oj hj hoj e he hb => ?_⟩
  rw [isL_set hlt] at hj ⊢
  rcases hj with hj | rfl
  · exact .inl (v.down j oj hj hoj e he hb)
  · rw [x.op] at hoj; cases hoj; exact .inl (x.edges e he hb)
theorem Next.advance (k : c.Ok) {listed : Array Bool} (v : Inv0 c listed) {i : Nat} {o : Oper} (x : Next c listed i o) (hi : i < c.m) : Inv0 c (listed.setIfInBounds i true) := by
  have hlt : i < listed.size := by rw [v.size]; exact k.lt x.op
  refine ⟨x.advance1 k v.toInv1, fun j hj => ?_⟩
  rw [isL_set hlt] at hj
  rcases hj with hj | rfl
  · exact v.head j hj
  · exact hi

theorem Next.agree_fr (k : c.Ok) {listed : Array Bool} (v : Inv1 c listed) {i : Nat} {o : Oper} (x : Next c listed i o) {fr : T AVal} (hf : c.FrSpec (isL listed) fr) {t : Tmp} (ht : t ∈ looksA c.l o) :
    fr.get t = (c.cf i).get t := by
  have hc := k.canon i (Nat.le_of_lt (k.lt x.op))
  by_cases hx : ∃ (j : Nat) (oj : Oper), c.l[j]? = some oj ∧ oj.dst = some t
  · obtain ⟨j, oj, hoj, hd⟩ := hx
    have hne : j ≠ i := fun e => by subst e; rw [x.op] at hoj; cases hoj; exact k.self _ o t x.op hd ht
    have uniq : ∀ q oq, c.l[q]? = some oq → oq.dst = some t → q = j := fun q oq hoq hdq => by
      by_cases e : j = q
      · exact e.symm
      · exact absurd hdq (k.once j q oj oq t hoj hoq e hd).1
    rcases (k.once j i oj o t hoj x.op hne hd).2 ht with hb | hb
    · obtain ⟨h1, h2⟩ := x.pre_in k v hb
      rw [hf.1 j oj t h1 hoj hd, hc.1 j oj t h2 hoj hd]
    · have hlt := k.pre_lt hoj hb
      have hnl : ¬ isL listed j := fun hj => by rw [x.not_pre k v hj] at hb; cases hb
      rw [hf.2 t fun q oq hq hoq hdq => hnl (uniq q oq hoq hdq ▸ hq), hc.2 t fun q oq hq hoq hdq => by have := uniq q oq hoq hdq; omega]
  · rw [hf.2 t fun q oq hq hoq hdq => hx ⟨q, oq, hoq, hdq⟩, hc.2 t fun q oq hq hoq hdq => hx ⟨q, oq, hoq, hdq⟩]

theorem Next.opd_eq (k : c.Ok) {listed : Array Bool} (v : Inv1 c listed) {i : Nat} {o : Oper} (x : Next c listed i o) {fr : T AVal} (hf : c.FrSpec (isL listed) fr) : ∀ y ∈ o.op.operands, opdA fr y = opdA (c.cf i) y :=
  fun y hy => opdA_congr fun t e => x.agree_fr k v hf (by
    subst e
    exact List.mem_append_left _ (List.mem_filterMap.2 ⟨.tmp t, by simpa using hy, rfl⟩))
theorem Next.wanted_eq (k : c.Ok) {listed : Array Bool} (v : Inv1 c listed) {i : Nat} {o : Oper} (x : Next c listed i o) {fr : T AVal} (hf : c.FrSpec (isL listed) fr) : wantedA c.l fr o = wantedA c.l (c.cf i) o := by
  unfold wantedA
  cases hg : o.guard with
  | none => rfl
  | some gw =>
    obtain ⟨g, want⟩ := gw
    have : yieldA c.l fr g = yieldA c.l (c.cf i) g := by
      unfold yieldA
      cases hd : (c.l[g]?).bind (·.dst) with
      | none => rfl
      | some d =>
        simp only
        rw [x.agree_fr k v hf (t := d) (by
          unfold looksA
          rw [hg]
          exact List.mem_append_right _ (by simp [hd]))]
    simp only [this]
end Cx
end Go.Ae
/- A region in any order: one step. -/
set_option linter.unusedVariables false
set_option linter.unusedSimpArgs false
set_option maxHeartbeats 1000000
namespace Go.Ae
open Go
namespace Cx
variable {c : Cx}

open Classical in
/-- The blocks that are made and that no effect has to do with yet. -/
noncomputable def pendF (c : Cx) (listed : Array Bool) (j : Nat) : Option Blk :=
  if isL listed j ∧ ∀ q, isL listed q → c.Ew q → (c.pre q).testBit j = false then c.blk j else none
theorem pendF_some {listed : Array Bool} {j : Nat} {x : Blk} (h : pendF c listed j = some x) : isL listed j ∧ (∀ q, isL listed q → c.Ew q → (c.pre q).testBit j = false) ∧ c.blk j = some x := by
  unfold pendF at h
  split at h
  · rename_i hc; exact ⟨hc.1, hc.2, h⟩
  · cases h
theorem pendF_of {listed : Array Bool} {j : Nat} (h1 : isL listed j) (h2 : ∀ q, isL listed q → c.Ew q → (c.pre q).testBit j = false) : pendF c listed j = c.blk j := if_pos ⟨h1, h2⟩
theorem pendF_congr {l l' : Array Bool} {j : Nat} (h1 : isL l j ↔ isL l' j) (h2 : (∀ q, isL l q → c.Ew q → (c.pre q).testBit j = false) ↔ ∀ q, isL l' q → c.Ew q → (c.pre q).testBit j = false) : pendF c l j = pendF c l' j := by
  unfold pendF
  by_cases h : isL l j ∧ ∀ q, isL l q → c.Ew q → (c.pre q).testBit j = false
  · rw [if_pos h, if_pos ⟨h1.1 h.1, h2.1 h.2⟩]
  · rw [if_neg h, if_neg (fun h' => h ⟨h1.2 h'.1, h2.2 h'.2⟩)]

def eN (c : Cx) (listed : Array Bool) : Nat := cntB (fun j => listed.getD j false && c.em.testBit j) c.n

structure HSpec (c : Cx) (listed : Array Bool) (hh hS : Hp) : Prop where
  at_ : c.HS[c.eN listed]? = some hS
  next : hh.next = hS.next
  room : c.p.base + c.n ≤ hS.next
  get : ∀ b, hh.get b = ((if c.p.base ≤ b ∧ b < c.p.base + c.n then pendF c listed (b - c.p.base) else none).orElse fun _ => hS.get b)
  none_ : ∀ j, j < c.n → (∀ q, isL listed q → c.Ew q → (c.pre q).testBit j = false) → hS.get (c.p.base + j) = none

theorem HSpec.sub {listed : Array Bool} {hh hS : Hp} (s : HSpec c listed hh hS) {b : Nat} {x : Blk} (h : hS.get b = some x) : hh.get b = some x := by
  rw [s.get]
  by_cases hb : c.p.base ≤ b ∧ b < c.p.base + c.n
  · rw [if_pos hb]
    cases hp : pendF c listed (b - c.p.base) with
    | none => exact h
    | some y =>
      have := s.none_ (b - c.p.base) (by omega) (pendF_some hp).2.1
      have e : c.p.base + (b - c.p.base) = b := by omega
      rw [e, h] at this; cases this
  · rw [if_neg hb]; exact h

structure Inv (c : Cx) (listed : Array Bool) (a : Act) (w : World) : Prop where
  v : Inv0 c listed
  ex : ∃ fr β hh hS, FrR c.E β c.N fr a ∧ c.FrSpec (isL listed) fr ∧ Rel c.E β hh w ∧ Frm c.β0 c.h0 c.w0 β hh w ∧ HSpec c listed hh hS ∧ ∀ j, j < c.n → ¬ isL listed j → β (c.p.base + j) = none

theorem getD_set (listed : Array Bool) {i j : Nat} (h : i ≠ j) : (listed.setIfInBounds i true).getD j false = listed.getD j false := getD_set_ne false h
theorem getD_set_same {listed : Array Bool} {i : Nat} (h : i < listed.size) : (listed.setIfInBounds i true).getD i false = true := (isL_set h).2 (.inr rfl)

theorem eN_same {listed : Array Bool} {i : Nat} (he : c.em.testBit i = false) : c.eN (listed.setIfInBounds i true) = c.eN listed :=
  cntB_congr fun k _ => by
    by_cases e : i = k
    · subst e; rw [he]; simp
    · rw [getD_set _ e]
theorem eN_eff (k : c.Ok) {listed : Array Bool} (v : Inv0 c listed) {i : Nat} {o : Oper} (x : Next c listed i o) (hi : i < c.m) (he : c.em.testBit i = true) :
    c.eN listed = cntB (fun j => c.em.testBit j) i ∧ c.eN (listed.setIfInBounds i true) = cntB (fun j => c.em.testBit j) (i + 1) := by
  have hn : i < c.n := k.lt x.op
  have h1 : c.eN listed = cntB (fun j => c.em.testBit j) i := by
    refine cntB_below (fun q hq => ?_) (fun q hq => ?_) (Nat.le_of_lt hn)
    · cases hb : c.em.testBit q with
      | false => simp
      | true =>
        have := (x.pre_in k v.toInv1 (k.chain q i hq hi hb he)).1
        unfold isL at this
        rw [this]; rfl
    · cases hb : c.em.testBit q with
      | false => simp
      | true =>
        cases hl : listed.getD q false with
        | false => rfl
        | true =>
          have hl' : isL listed q := hl
          have hne : i ≠ q := fun e => x.no (e ▸ hl')
          have := k.chain i q (by omega) (v.head q hl') he hb
          rw [x.not_pre k v.toInv1 hl'] at this; cases this
  refine ⟨h1, ?_⟩
  have hno : listed.getD i false = false := by
    cases h : listed.getD i false with
    | false => rfl
    | true => exact absurd h x.no
  have h2 := cntB_add (f := fun j => listed.getD j false && c.em.testBit j) (g := fun j => (listed.setIfInBounds i true).getD j false && c.em.testBit j) (i := i)
    (by simp only [hno, Bool.false_and]) (by simp only [he, Bool.and_true]; exact getD_set_same (by rw [v.size]; exact hn)) (fun q hq => by simp only [getD_set _ (Ne.symm hq)]) (n := c.n)
  rw [if_pos hn] at h2
  show cntB _ _ = _
  rw [h2]
  show c.eN listed + 1 = bif c.em.testBit i then _ + 1 else _
  rw [he, h1]; rfl

theorem em_iff {i : Nat} {o : Oper} (ho : c.l[i]? = some o) : c.em.testBit i = isEff c.P o := by
  rw [Bool.eq_iff_iff, em, testBit_effMask]
  constructor
  · rintro ⟨o', h1, h2⟩; rw [ho] at h1; cases h1; exact h2
  · intro h; exact ⟨o, ho, h⟩
theorem isEff_kind {P : Program} {o : Oper} {k : Kind} (hk : kindOf P o = k) (hne : k ≠ .eff) : isEff P o = false := by
  unfold isEff; rw [hk]; cases k <;> first | rfl | exact absurd rfl hne
theorem Ew_iff {i : Nat} {o : Oper} (ho : c.l[i]? = some o) : c.Ew i ↔ StepD.EffW c.P c.l o (c.st i) :=
  ⟨fun ⟨o', h1, h2⟩ => by rw [ho] at h1; cases h1; exact h2, fun h => ⟨o, ho, h⟩⟩

/-- A block more, under a number of its own. -/
theorem push_at {β0 β : Beta} {h0 hh : Hp} {w0 w w' : World} (f : Frm β0 h0 w0 β hh w) {id sz : Nat} {b : Blk} {ob : Obj} (hid : h0.next ≤ id) (hw : w'.heap = w.heap.push ob) (h1 : w'.os = w.os) (h2 : w'.tape = w.tape) (h3 : w'.output = w.output) :
    Frm β0 h0 w0 (upd β id ⟨w.heap.size, 0, sz⟩) (hh.put id b) w' where
  next := f.next
  ext := fun q hq => by rw [upd_ne (by omega)]; exact f.ext q hq
  size := by rw [hw]; simp; have := f.size; omega
  same := fun q hq hno => by
    rw [hw, Array.getElem?_push, if_neg (by have := f.size; omega)]
    exact f.same q hq hno
  range := fun q y L hy hL hlt => by
    rw [Hp.get_put] at hy
    by_cases e : id = q
    · subst e; rw [upd_same] at hL; cases hL
      have := f.size
      simp only at hlt; omega
    · rw [if_neg e] at hy
      rw [upd_ne (Ne.symm e)] at hL
      exact f.range q y L hy hL hlt
  dom := fun q hq hn => by
    rw [Hp.get_put, if_neg (by omega)]; exact f.dom q hq hn
  os := h1.trans f.os
  tape := h2.trans f.tape
  output := h3.trans f.output

theorem HSpec.keep (k : c.Ok) {listed : Array Bool} (v : Inv0 c listed) {i : Nat} {o : Oper} (x : Next c listed i o) (hi : i < c.m) {hh hS : Hp} (s : HSpec c listed hh hS) (hEw : ¬ c.Ew i) (hblk : c.blk i = none)
    (hsame : c.em.testBit i = true → (c.st (i + 1)).h = (c.st i).h) : HSpec c (listed.setIfInBounds i true) hh hS where
  at_ := by
    cases he : c.em.testBit i with
    | false => rw [eN_same he]; exact s.at_
    | true =>
      obtain ⟨h1, h2⟩ := eN_eff k v x hi he
      rw [h2, k.heap_at (by omega), hsame he]
      have := s.at_
      rw [h1, k.heap_at (by omega)] at this
      exact this
  next := s.next
  room := s.room
  get := fun b => by
    rw [s.get]
    have hlt : i < listed.size := by rw [v.size]; exact k.lt x.op
    have : ∀ j, pendF c (listed.setIfInBounds i true) j = pendF c listed j := fun j => by
      by_cases e : j = i
      · subst e
        have h1 : pendF c listed j = none := by
          cases h : pendF c listed j with
          | none => rfl
          | some y => exact absurd (pendF_some h).1 x.no
        rw [h1]
        cases h : pendF c (listed.setIfInBounds j true) j with
        | none => rfl
        | some y => have := (pendF_some h).2.2; rw [hblk] at this; cases this
      · refine pendF_congr ⟨fun h => ((isL_set hlt).1 h).resolve_right e, fun h => (isL_set hlt).2 (.inl h)⟩ ⟨fun h q hq => h q ((isL_set hlt).2 (.inl hq)), fun h q hq he => ?_⟩
        rcases (isL_set hlt).1 hq with hq | rfl
        · exact h q hq he
        · exact absurd he hEw
    rw [this]
  none_ := fun j hj hu => s.none_ j hj fun q hq => hu q ((isL_set (by rw [v.size]; exact k.lt x.op)).2 (.inl hq))

theorem step_ok (k : c.Ok) {listed : Array Bool} {a : Act} {w : World} (I : Inv c listed a w) {i : Nat} {o : Oper} (x : Next c listed i o) (hi : i < c.m) {K : Act → World → Prop} {Q : Exit → Act → World → Prop}
    (hK : ∀ a' w', Inv c (listed.setIfInBounds i true) a' w' → K a' w') : wpOp c.P c.ops Q i K a w := by
  obtain ⟨v, fr, β, hh, hS, hf, hfs, hr, hfrm, hsp, hfresh⟩ := I
  have hn : i < c.n := k.lt x.op
  have hlt : i < listed.size := by rw [v.size]; exact hn
  have hL : ∀ j, isL (listed.setIfInBounds i true) j ↔ isL listed j ∨ j = i := fun j => isL_set hlt
  have v' := x.advance k v hi
  have hfs' := hfs.put k x.op x.no hL
  have hop : c.ops[i]? = some o := by have := x.op; rw [l, Array.getElem?_toList] at this; exact this
  have hwanted : Region.wanted o (yielded c.ops a.tmps) = wantedA c.l (c.st i).fr o := by
    rw [k.stcf i (Nat.le_of_lt hi)]
    exact (wanted_eq hf c.ops o).trans (x.wanted_eq k v.toInv1 hfs)
  have hopd := x.opd_eq k v.toInv1 hfs
  rw [← k.stcf i (Nat.le_of_lt hi)] at hopd
  have hst := k.step i o hi x.op
  have hat := k.heap_at (i := i + 1) (by omega)
  have hfin : ∀ (cv : Value) (β' : Beta) (hh' hS' : Hp) (w' : World), VR c.E.ρ β' (c.res i) cv → Ext β β' → Rel c.E β' hh' w' → Frm c.β0 c.h0 c.w0 β' hh' w' → HSpec c (listed.setIfInBounds i true) hh' hS' →
      (∀ j, j < c.n → ¬ isL (listed.setIfInBounds i true) j → β' (c.p.base + j) = none) → K (a.put o.dst cv) w' := fun cv β' hh' hS' w' h1 h2 h3 h4 h5 h6 =>
    hK _ _ ⟨v', _, β', hh', hS', (hf.mono h2).put h1 o.dst (k.fits i o · x.op), hfs', h3, h4, h5, h6⟩
  have hfresh' : ∀ j, j < c.n → ¬ isL (listed.setIfInBounds i true) j → ¬ isL listed j := fun j _ h h' => h ((hL j).2 (.inl h'))
  unfold wpOp
  rw [hop]
  simp only
  rw [hwanted]
  have hres : c.res i = c.res i := rfl
  generalize hs' : c.st (i + 1) = s' at hst
  generalize hv0 : c.res i = v0 at hst
  generalize hob : c.blk i = ob at hst
  cases hst with
  | skip hw =>
    rw [hw]
    simp only [Bool.false_eq_true, if_false]
    refine hfin undef β hh hS w (by rw [hv0]; exact undef_VR) (.refl _) hr hfrm ?_ fun j hj h => hfresh j hj (hfresh' j hj h)
    exact hsp.keep k v x hi (fun h => by have := ((Ew_iff x.op).1 h).1; rw [hw] at this; cases this) hob fun _ => by rw [hs']
  | pure hw hk hv =>
    rw [hw, if_pos rfl]
    left
    rw [← pureOp_congr hopd] at hv
    obtain ⟨cv, hrun, hcv⟩ := pure_sound hv hf
    unfold Oper.wp
    rw [hrun w]
    refine hfin cv β hh hS w (by rw [hv0]; exact hcv) (.refl _) hr hfrm ?_ fun j hj h => hfresh j hj (hfresh' j hj h)
    exact hsp.keep k v x hi (fun h => by have := ((Ew_iff x.op).1 h).2; rw [hk] at this; cases this) hob fun h => by rw [em_iff x.op, isEff_kind hk (by simp)] at h; cases h
  | read hw hk hv =>
    rw [hw, if_pos rfl]
    left
    -- the memory at hand is one that the check has looked at
    have hmem : (⟨o, (c.st i).fr, v0, (c.p.ws.getD i (0, 0)).1, (c.p.ws.getD i (0, 0)).2⟩ : Rd) ∈ (c.st c.m).rds :=
      k.rds_at (c.m - (i + 1)) (i + 1) (by omega) (by rw [hs']; exact List.mem_cons_self ..)
    have hag := k.agr _ hmem
    unfold agree at hag
    rw [List.all_eq_true] at hag
    have hag := hag (hS, c.eN listed) (by rw [List.mem_zipIdx_iff_getElem?]; exact hsp.at_)
    have hwin : c.p.ws.getD i (0, 0) = window c.P c.l i := by
      rw [k.hws]
      unfold windows
      rw [List.getD_eq_getElem?_getD, List.getElem?_map, List.getElem?_range (by simpa [l, n] using hn)]
      rfl
    have hlen : c.l.length = c.n := by simp [l, n]
    have hlo : (c.p.ws.getD i (0, 0)).1 ≤ c.eN listed := by
      rw [hwin]
      show cntB _ c.l.length ≤ _
      rw [hlen]
      refine cntB_mono fun q hq hb => ?_
      simp only [Bool.and_eq_true] at hb ⊢
      exact ⟨(x.pre_in k v.toInv1 hb.1).1, hb.2⟩
    have hhi : c.eN listed ≤ (c.p.ws.getD i (0, 0)).2 := by
      rw [hwin]
      show _ ≤ cntB _ c.l.length
      rw [hlen]
      refine cntB_mono fun q hq hb => ?_
      simp only [Bool.and_eq_true, Bool.not_eq_true'] at hb ⊢
      refine ⟨⟨hb.2, ?_⟩, x.not_pre k v.toInv1 hb.1⟩
      cases he : Nat.beq q i with
      | false => rfl
      | true => rw [Nat.eq_of_beq_eq_true he] at hb; exact absurd hb.1 x.no
    simp only at hag
    rw [Nat.ble_eq_true_of_le hlo, Nat.ble_eq_true_of_le hhi] at hag
    simp only [Bool.and_self, Bool.not_true, Bool.false_or] at hag
    split at hag
    · rename_i u hu
      have := beqV_eq _ _ _ hag
      subst this
      rw [← readOp_congr hopd] at hu
      obtain ⟨cv, hrun, hcv⟩ := read_sound (hr.sub (h := hS) (fun b y => hsp.sub) hsp.next.symm) hu hf
      unfold Oper.wp
      rw [hrun]
      refine hfin cv β hh hS w (by rw [hv0]; exact hcv) (.refl _) hr hfrm ?_ fun j hj h => hfresh j hj (hfresh' j hj h)
      exact hsp.keep k v x hi (fun h => by have := ((Ew_iff x.op).1 h).2; rw [hk] at this; cases this) hob fun h => by rw [em_iff x.op, isEff_kind hk (by simp)] at h; cases h
    · cases hag
  | @alloc hw hk _ b hv =>
    rw [hw, if_pos rfl]
    left
    rw [← allocOp_congr hopd] at hv
    have hid := hfresh i hn x.no
    have hEw : ¬ c.Ew i := fun h => by have := ((Ew_iff x.op).1 h).2; rw [hk] at this; cases this
    obtain ⟨cv, w', ob, sz, hrun, h1, h2, h3, h4, hcv, hB⟩ := alloc_sound (w := w) hid hf hv
    unfold Oper.wp
    rw [hrun]
    refine hfin cv _ (hh.put (c.p.base + i) b) hS w' (by rw [hv0]; exact hcv) (Ext.upd hid) ?_ (push_at hfrm (by rw [k.base]; omega) h1 h2 h3 h4) ?_ ?_
    · exact hr.push hid h1 (Nat.le_refl _) (by rw [hsp.next]; have := hsp.room; omega) hB
    · refine ⟨?_, hsp.next, hsp.room, fun q => ?_, fun j hj hu => hsp.none_ j hj fun q hq => hu q ((hL q).2 (.inl hq))⟩
      · rw [eN_same (by rw [em_iff x.op, isEff_kind hk (by simp)])]; exact hsp.at_
      · rw [Hp.get_put, hsp.get]
        by_cases e : c.p.base + i = q
        · subst e
          rw [if_pos rfl, if_pos (by omega)]
          have e2 : c.p.base + i - c.p.base = i := by omega
          rw [e2, pendF_of ((hL i).2 (.inr rfl)), hob]; · rfl
          intro q hq he
          rcases (hL q).1 hq with hq | rfl
          · exact x.not_pre k v.toInv1 hq
          · exact absurd he hEw
        · rw [if_neg e]
          by_cases h5 : c.p.base ≤ q ∧ q < c.p.base + c.n
          · rw [if_pos h5, if_pos h5]
            have : pendF c (listed.setIfInBounds i true) (q - c.p.base) = pendF c listed (q - c.p.base) := by
              refine pendF_congr ⟨fun h => ((hL _).1 h).resolve_right (by omega), fun h => (hL _).2 (.inl h)⟩ ⟨fun h q hq => h q ((hL q).2 (.inl hq)), fun h q hq he => ?_⟩
              rcases (hL q).1 hq with hq | rfl
              · exact h q hq he
              · exact absurd he hEw
            rw [this]
          · rw [if_neg h5, if_neg h5]
    · intro j hj h
      rw [upd_ne (by intro e; have : j = i := by omega
                     subst this; exact h ((hL j).2 (.inr rfl)))]
      exact hfresh j hj (hfresh' j hj h)
  | @eff hw hk _ h' q0 hlt0 hv =>
    rw [hw, if_pos rfl]
    left
    have hEw : c.Ew i := (Ew_iff x.op).2 ⟨hw, hk⟩
    have he : c.em.testBit i = true := by rw [em_iff x.op]; unfold isEff; rw [hk]
    obtain ⟨hE1, hE2⟩ := eN_eff k v x hi he
    have hS_eq : (c.st i).h = hS := by
      have := hsp.at_
      rw [hE1, k.heap_at (by omega)] at this
      exact Option.some.inj this
    have hpre : c.p.pre.getD i 0 = c.pre i := by rw [k.hpre]; rfl
    rw [hpre, hS_eq] at hv
    have hpub := publish_get (base := c.p.base) (mask := c.pre i) (l := (c.st i).pend) (h := hS) (f := c.blk) fun j b hj => ((k.pend_at i (by omega) j b).1 hj).2.1
    generalize publish c.p.base (c.pre i) (c.st i).pend hS = hin at hv hpub
    obtain ⟨hpn, hpg⟩ := hpub
    -- of what has been done up to here, which effects
    have hbefore : ∀ q, isL listed q → c.Ew q → q < i := fun q hq heq => by
      rcases Nat.lt_trichotomy q i with h | h | h
      · exact h
      · subst h; exact absurd hq x.no
      · obtain ⟨oq, hoq, hE⟩ := heq
        have := k.chain i q h (v.head q hq) he (by rw [em_iff hoq]; unfold isEff; rw [hE.2])
        rw [x.not_pre k v.toInv1 hq] at this; cases this
    have hpend : ∀ j y, c.p.base + j < c.p.base + c.n → (c.pre i).testBit j = true → (j, y) ∈ (c.st i).pend → pendF c listed j = c.blk j := fun j y _ hb hj => by
      obtain ⟨h1, h2, h3⟩ := (k.pend_at i (by omega) j y).1 hj
      exact pendF_of (x.pre_in k v.toInv1 hb).1 fun q hq heq => h3 q (hbefore q hq heq) heq
    have hsub : ∀ b y, hin.get b = some y → hh.get b = some y := fun b y hy => by
      rw [hpg] at hy
      by_cases hc : c.p.base ≤ b ∧ (c.pre i).testBit (b - c.p.base) = true ∧ ∃ z, (b - c.p.base, z) ∈ (c.st i).pend
      · rw [if_pos hc] at hy
        obtain ⟨z, hz⟩ := hc.2.2
        have hz' := (k.pend_at i (by omega) _ z).1 hz
        rw [hz'.2.1] at hy
        rw [hsp.get, if_pos ⟨hc.1, by omega⟩, hpend _ z (by omega) hc.2.1 hz, hz'.2.1]
        exact hy
      · rw [if_neg hc] at hy
        exact hsp.sub hy
    have hnx : hin.next = hh.next := by rw [hpn, hsp.next]
    have hvv : evalOp c.P c.E.G c.H q0 fr hin o = some (v0, h') := by rw [evalOp_congr hopd]; exact hv
    refine wp_of_step (k.hop q0 hlt0 hvv (hr.sub hsub hnx) hf) fun cv β' w' hcv hrel hfr => ?_
    obtain ⟨hh', hn', hg'⟩ := exists_puts h' c.p.base (pendF c (listed.setIfInBounds i true)) c.n
    have hless : ∀ j y, pendF c (listed.setIfInBounds i true) j = some y → (c.pre i).testBit j = false ∧ pendF c listed j = some y ∧ isL listed j ∧ ∀ q, isL listed q → c.Ew q → (c.pre q).testBit j = false := fun j y hy => by
      obtain ⟨h1, h2, h3⟩ := pendF_some hy
      have hb := h2 i ((hL i).2 (.inr rfl)) hEw
      have hne : j ≠ i := fun e => by subst e; rw [hob] at h3; cases h3
      have hl := ((hL j).1 h1).resolve_right hne
      have hu : ∀ q, isL listed q → c.Ew q → (c.pre q).testBit j = false := fun q hq => h2 q ((hL q).2 (.inl hq))
      exact ⟨hb, by rw [pendF_of hl hu, h3], hl, hu⟩
    have hinn : ∀ j, j < c.n → (c.pre i).testBit j = false → hin.get (c.p.base + j) = hS.get (c.p.base + j) := fun j hj hb => by
      rw [hpg, if_neg (by rintro ⟨_, h2, _⟩; have e : c.p.base + j - c.p.base = j := by omega
                          rw [e, hb] at h2; cases h2)]; rfl
    have hgg : ∀ b y, hh'.get b = some y → h'.get b = some y ∨ (hh.get b = some y ∧ hin.get b = none) := fun b y hy => by
      rw [hg'] at hy
      by_cases hc : c.p.base ≤ b ∧ b < c.p.base + c.n
      · rw [if_pos hc] at hy
        cases hp : pendF c (listed.setIfInBounds i true) (b - c.p.base) with
        | none => rw [hp] at hy; exact .inl hy
        | some z =>
          rw [hp] at hy
          obtain ⟨h1, h2, h3, h4⟩ := hless _ z hp
          refine .inr ⟨by rw [hsp.get, if_pos hc, h2]; exact hy, ?_⟩
          have e : c.p.base + (b - c.p.base) = b := by omega
          have := hinn (b - c.p.base) (by omega) h1
          rw [e] at this
          rw [this]
          have := hsp.none_ (b - c.p.base) (by omega) h4
          rw [e] at this; exact this
      · rw [if_neg hc] at hy; exact .inl hy
    have hrel' := hr.frame hsub hnx hrel hfr hn' hgg
    have hfr' := Frm.frame hr hsub hnx hfr hn' hgg
    refine hfin cv β' hh' h' w' (by rw [hv0]; exact hcv) (hfr'.Ext hr) hrel' (hfrm.trans hfr') ?_ ?_
    · refine ⟨by rw [hE2, hat, hs'], hn', ?_, hg', fun j hj hu => ?_⟩
      · have := hsp.room; have := hfr.next; omega
      · have hb := hu i ((hL i).2 (.inr rfl)) hEw
        refine hfr.dom _ (by have := hsp.room; omega) ?_
        rw [hinn j hj hb]
        exact hsp.none_ j hj fun q hq => hu q ((hL q).2 (.inl hq))
    · intro j hj h
      rw [hfr.ext _ (by have := hsp.room; omega)]
      exact hfresh j hj (hfresh' j hj h)
end Cx
end Go.Ae
