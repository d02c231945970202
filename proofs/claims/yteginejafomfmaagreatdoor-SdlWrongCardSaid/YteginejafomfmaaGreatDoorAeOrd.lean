/- Of orders: masks, counts, what stands ahead of what. -/
import Derived.Test.YteginejafomfmaaGreatDoorAeDraw0
import Derived.Orders
set_option linter.unusedVariables false
set_option linter.unusedSimpArgs false
namespace Go.Ae
open Go

section
variable {P : Program}

theorem testBit_effFrom : ∀ (l : List Oper) (i k : Nat), (effFrom P l i).testBit k = true ↔ ∃ o, i ≤ k ∧ l[k - i]? = some o ∧ isEff P o = true
  | [], i, k => by simp [effFrom]
  | o :: l, i, k => by
    have ih := testBit_effFrom l (i + 1) k
    have shift : (∃ o', i ≤ k ∧ (o :: l)[k - i]? = some o' ∧ isEff P o' = true) ↔ (i = k ∧ isEff P o = true) ∨ ∃ o', i + 1 ≤ k ∧ l[k - (i + 1)]? = some o' ∧ isEff P o' = true := by
      constructor
      · rintro ⟨o', h1, h2, h3⟩
        by_cases hk : i = k
        · subst hk; simp at h2; subst h2; exact .inl ⟨rfl, h3⟩
        · refine .inr ⟨o', by omega, ?_, h3⟩
          have : k - i = (k - (i + 1)) + 1 := by omega
          rw [this] at h2; simpa using h2
      · rintro (⟨rfl, h⟩ | ⟨o', h1, h2, h3⟩)
        · exact ⟨o, Nat.le_refl _, by simp, h⟩
        · refine ⟨o', by omega, ?_, h3⟩
          have : k - i = (k - (i + 1)) + 1 := by omega
          rw [this]; simpa using h2
    rw [shift]
    unfold effFrom
    cases he : isEff P o with
    | true =>
      simp only [cond_true, Nat.testBit_or, Bool.or_eq_true, Nat.testBit_two_pow, decide_eq_true_eq, ih]
      simp
    | false =>
      simp only [cond_false, ih]
      simp
theorem testBit_effMask {ops : List Oper} {k : Nat} : (effMask P ops).testBit k = true ↔ ∃ o, ops[k]? = some o ∧ isEff P o = true := by
  unfold effMask
  rw [testBit_effFrom]
  simp

theorem cntB_congr {f g : Nat → Bool} : ∀ {n : Nat}, (∀ k, k < n → f k = g k) → cntB f n = cntB g n
  | 0, _ => rfl
  | n + 1, h => by
    unfold cntB
    rw [h n (Nat.lt_succ_self n), cntB_congr fun k hk => h k (Nat.lt_succ_of_lt hk)]
theorem cntB_mono {f g : Nat → Bool} : ∀ {n : Nat}, (∀ k, k < n → f k = true → g k = true) → cntB f n ≤ cntB g n
  | 0, _ => Nat.le_refl _
  | n + 1, h => by
    have ih := cntB_mono (n := n) fun k hk => h k (Nat.lt_succ_of_lt hk)
    unfold cntB
    cases hf : f n with
    | false => cases g n <;> simp <;> omega
    | true => rw [h n (Nat.lt_succ_self n) hf]; simp; exact ih
theorem cntB_le (f : Nat → Bool) : ∀ n, cntB f n ≤ n
  | 0 => Nat.le_refl _
  | n + 1 => by
    have := cntB_le f n
    unfold cntB
    cases f n <;> simp <;> omega
theorem cntB_full {f : Nat → Bool} : ∀ {n : Nat}, cntB f n = n → ∀ k, k < n → f k = true
  | 0, _, k, hk => by omega
  | n + 1, h, k, hk => by
    have hle := cntB_le f n
    unfold cntB at h
    cases hf : f n with
    | false => rw [hf] at h; simp at h; omega
    | true =>
      rw [hf] at h; simp at h
      by_cases e : k = n
      · subst e; exact hf
      · exact cntB_full h k (by omega)
/-- One more. -/
theorem cntB_add {f g : Nat → Bool} {i : Nat} (hf : f i = false) (hg : g i = true) (hs : ∀ k, k ≠ i → g k = f k) : ∀ {n : Nat}, cntB g n = cntB f n + (if i < n then 1 else 0)
  | 0 => by simp [cntB]
  | n + 1 => by
    have ih := cntB_add hf hg hs (n := n)
    unfold cntB
    by_cases e : n = i
    · subst e
      rw [hf, hg, ih]; simp
    · rw [hs n e]
      cases f n with
      | true =>
        simp only [cond_true, ih]
        by_cases h : i < n
        · rw [if_pos h, if_pos (by omega)]
        · rw [if_neg h, if_neg (by omega)]
      | false =>
        simp only [cond_false, ih]
        by_cases h : i < n
        · rw [if_pos h, if_pos (by omega)]
        · rw [if_neg h, if_neg (by omega)]
/-- As many as below i. -/
theorem cntB_below {f g : Nat → Bool} {i : Nat} (h1 : ∀ k, k < i → g k = f k) (h2 : ∀ k, i ≤ k → g k = false) : ∀ {n : Nat}, i ≤ n → cntB g n = cntB f i
  | 0, h => by
    have : i = 0 := by omega
    subst this; rfl
  | n + 1, h => by
    by_cases e : i = n + 1
    · subst e; exact cntB_congr h1
    · have e2 : cntB g (n + 1) = cntB g n := by
        show (bif g n then _ else _) = _
        rw [h2 n (by omega)]; rfl
      rw [e2]
      exact cntB_below h1 h2 (by omega)

/-! What must stand ahead. -/
def edgesOf (b : List Nat) (o : Oper) : Nat := o.after.toList.foldl (fun s e => if Region.binds .any e then s ||| 2 ^ e.on ||| b.getD e.on 0 else s) 0
theorem testBit_edges (b : List Nat) (j : Nat) : ∀ (l : List Edge) (s : Nat),
    (l.foldl (fun s e => if Region.binds .any e then s ||| 2 ^ e.on ||| b.getD e.on 0 else s) s).testBit j = true ↔
      s.testBit j = true ∨ ∃ e ∈ l, Region.binds .any e = true ∧ (e.on = j ∨ (b.getD e.on 0).testBit j = true)
  | [], s => by simp
  | e :: l, s => by
    rw [List.foldl_cons, testBit_edges b j l]
    by_cases hb : Region.binds .any e = true
    · rw [if_pos hb]
      simp only [Nat.testBit_or, Bool.or_eq_true, Nat.testBit_two_pow, decide_eq_true_eq, List.mem_cons, exists_eq_or_imp, hb, true_and]
      rw [or_assoc, or_assoc, or_assoc]
    · rw [if_neg hb]
      simp only [List.mem_cons, exists_eq_or_imp, hb, false_and, false_or, Bool.false_eq_true]
def befStep (acc : List Nat) (o : Oper) : List Nat := acc ++ [edgesOf acc o]
theorem befores_eq (ops : List Oper) : befores ops = ops.foldl befStep [] := rfl
theorem bef_length : ∀ (l : List Oper) (acc : List Nat), (l.foldl befStep acc).length = acc.length + l.length
  | [], acc => by simp
  | o :: l, acc => by rw [List.foldl_cons, bef_length l]; simp [befStep]; omega
theorem bef_old : ∀ (l : List Oper) (acc : List Nat) (i : Nat), i < acc.length → (l.foldl befStep acc).getD i 0 = acc.getD i 0
  | [], acc, i, _ => rfl
  | o :: l, acc, i, h => by
    rw [List.foldl_cons, bef_old l _ i (by simp [befStep]; omega)]
    simp only [befStep, List.getD_eq_getElem?_getD]
    rw [List.getElem?_append_left h]
theorem bef_new : ∀ (l : List Oper) (acc : List Nat) (i : Nat) (o : Oper), l[i]? = some o → ∃ acc', (l.foldl befStep acc).getD (acc.length + i) 0 = edgesOf acc' o ∧ acc'.length = acc.length + i ∧ ∀ k, k < acc.length + i → (l.foldl befStep acc).getD k 0 = acc'.getD k 0
  | [], acc, i, o, h => by simp at h
  | o' :: l, acc, 0, o, h => by
    simp only [List.getElem?_cons_zero, Option.some.injEq] at h
    subst h
    refine ⟨acc, ?_, rfl, fun k hk => ?_⟩
    · rw [List.foldl_cons, bef_old l _ _ (by simp [befStep])]
      simp [befStep, List.getD_eq_getElem?_getD]
    · exact bef_old (o' :: l) acc k hk
  | o' :: l, acc, i + 1, o, h => by
    obtain ⟨acc', h1, h2, h3⟩ := bef_new l (befStep acc o') i o (by simpa using h)
    have hl : (befStep acc o').length = acc.length + 1 := by simp [befStep]
    rw [hl] at h1 h2 h3
    have e : acc.length + (i + 1) = acc.length + 1 + i := by omega
    exact ⟨acc', by rw [List.foldl_cons, e]; exact h1, by omega, fun k hk => by rw [List.foldl_cons]; exact h3 k (by omega)⟩

/-- The edges look back. -/
def Back (ops : List Oper) : Prop := ∀ i o, ops[i]? = some o → ∀ e ∈ o.after, Region.binds .any e = true → e.on < i

theorem testBit_bef {ops : List Oper} (hb : Back ops) {i : Nat} {o : Oper} (ho : ops[i]? = some o) (j : Nat) :
    ((befores ops).getD i 0).testBit j = true ↔ ∃ e ∈ o.after, Region.binds .any e = true ∧ (e.on = j ∨ ((befores ops).getD e.on 0).testBit j = true) := by
  obtain ⟨acc', h1, h2, h3⟩ := bef_new ops [] i o ho
  simp only [List.length_nil, Nat.zero_add] at h1 h2 h3
  rw [befores_eq, h1]
  unfold edgesOf
  rw [testBit_edges]
  simp only [Nat.zero_testBit, Bool.false_eq_true, false_or, Array.mem_toList_iff]
  constructor
  · rintro ⟨e, he, hbd, h⟩
    exact ⟨e, he, hbd, h.imp id fun h => by rw [h3 _ (hb i o ho e he hbd)]; exact h⟩
  · rintro ⟨e, he, hbd, h⟩
    exact ⟨e, he, hbd, h.imp id fun h => by rw [h3 _ (hb i o ho e he hbd)] at h; exact h⟩

/-- With each operation all that must stand ahead of it. -/
def Down (ops : List Oper) (S : Nat → Prop) : Prop := ∀ i o, S i → ops[i]? = some o → ∀ e ∈ o.after, Region.binds .any e = true → S e.on

theorem bef_in {ops : List Oper} (hb : Back ops) {S : Nat → Prop} (hS : Down ops S) : ∀ (n i : Nat), i < n → ∀ {o : Oper}, ops[i]? = some o → (∀ e ∈ o.after, Region.binds .any e = true → S e.on) →
    ∀ {j : Nat}, ((befores ops).getD i 0).testBit j = true → S j ∧ j < i
  | 0, i, hi, _, _, _, _, _ => by omega
  | n + 1, i, hi, o, ho, hr, j, hj => by
    obtain ⟨e, he, hbd, h⟩ := (testBit_bef hb ho j).1 hj
    have hlt := hb i o ho e he hbd
    have hse := hr e he hbd
    rcases h with rfl | h
    · exact ⟨hse, hlt⟩
    · have hex : e.on < ops.length := by
        have := (List.getElem?_eq_some_iff.1 ho).1; omega
      have := bef_in hb hS n e.on (by omega) (List.getElem?_eq_getElem hex) (fun e' he' hbd' => hS e.on _ hse (List.getElem?_eq_getElem hex) e' he' hbd') h
      exact ⟨this.1, by omega⟩
end
end Go.Ae
