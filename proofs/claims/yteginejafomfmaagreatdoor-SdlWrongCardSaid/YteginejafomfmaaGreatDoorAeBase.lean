/- Lemmas on tries and on texts as numbers. -/
import Derived.Test.YteginejafomfmaaGreatDoorAeSpec
set_option linter.unusedVariables false
set_option linter.unusedSimpArgs false
namespace Go.Ae
open Go

theorem get_fillT : ∀ (l : List AVal) (i : Nat) (t : T AVal) (j : Nat), (fillT l i t).get j = if i ≤ j ∧ j < i + l.length then l[j - i]? else t.get j
  | [], i, t, j => by simp [fillT]; omega
  | c :: l, i, t, j => by
    rw [fillT, get_fillT l (i + 1), T.get_set]
    by_cases h : i = j
    · subst h; rw [if_neg (by omega), if_pos rfl, if_pos (by simp)]; simp
    · by_cases h2 : i + 1 ≤ j ∧ j < i + 1 + l.length
      · rw [if_pos h2, if_pos (by simp only [List.length_cons]; omega)]
        have : j - i = (j - (i + 1)) + 1 := by omega
        rw [this, List.getElem?_cons_succ]
      · rw [if_neg h2, if_neg h, if_neg (by simp only [List.length_cons]; omega)]

theorem readT_some : ∀ (n i : Nat) (t : T AVal) (l : List AVal), readT t n i = some l → l.length = n ∧ ∀ j, j < n → t.get (i + j) = l[j]?
  | 0, i, t, l, h => by simp only [readT, Option.some.injEq] at h; subst h; exact ⟨rfl, fun j hj => by omega⟩
  | n + 1, i, t, l, h => by
    simp only [readT] at h
    cases h1 : t.get i with
    | none => rw [h1] at h; cases h
    | some c =>
      cases h2 : readT t n (i + 1) with
      | none => rw [h1, h2] at h; cases h
      | some m =>
        rw [h1, h2] at h
        cases h
        obtain ⟨hl, hg⟩ := readT_some n (i + 1) t m h2
        refine ⟨by simp [hl], fun j hj => ?_⟩
        cases j with
        | zero => simpa using h1
        | succ j => rw [List.getElem?_cons_succ, ← hg j (by omega)]; congr 1; omega

theorem known_spec : ∀ (n i : Nat) (t : T AVal), known t n i = true → ∀ j, j < n → ∃ v, t.get (i + j) = some v
  | 0, i, t, _, j, hj => by omega
  | n + 1, i, t, h, j, hj => by
    simp only [known] at h
    cases h1 : t.get i with
    | none => rw [h1] at h; cases h
    | some c =>
      rw [h1] at h
      cases j with
      | zero => exact ⟨c, h1⟩
      | succ j =>
        obtain ⟨v, hv⟩ := known_spec n (i + 1) t h j (by omega)
        exact ⟨v, by rw [← hv]; congr 1; omega⟩

/-! Texts. -/
theorem two_pow_8 (n : Nat) : 2 ^ (8 * n) = 256 ^ n := by rw [Nat.pow_mul]
theorem codeOf_lt : ∀ l : List UInt8, codeOf l < 256 ^ l.length
  | [] => by simp [codeOf]
  | b :: l => by
    have := codeOf_lt l
    have hb := b.toNat_lt
    simp only [codeOf, List.length_cons, Nat.pow_succ]
    omega
theorem decode_codeOf : ∀ l : List UInt8, decode l.length (codeOf l) = l
  | [] => rfl
  | b :: l => by
    have hb := b.toNat_lt
    simp only [codeOf, List.length_cons, decode]
    rw [show (b.toNat + 256 * codeOf l) % 256 = b.toNat by omega, show (b.toNat + 256 * codeOf l) / 256 = codeOf l by omega, decode_codeOf l]
    simp
@[simp] theorem decode_length : ∀ n c, (decode n c).length = n
  | 0, _ => rfl
  | n + 1, c => by simp [decode, decode_length n]
theorem codeOf_decode : ∀ (n c : Nat), c < 256 ^ n → codeOf (decode n c) = c
  | 0, c, h => by simp at h; simp [decode, codeOf, h]
  | n + 1, c, h => by
    rw [Nat.pow_succ] at h
    simp only [decode, codeOf]
    rw [codeOf_decode n (c / 256) (by omega)]
    have : (UInt8.ofNat (c % 256)).toNat = c % 256 := by simp
    omega
theorem decode_inj {n a b : Nat} (ha : a < 256 ^ n) (hb : b < 256 ^ n) (h : decode n a = decode n b) : a = b := by
  rw [← codeOf_decode n a ha, h, codeOf_decode n b hb]
theorem decode_get : ∀ (n c i : Nat), i < n → (decode n c)[i]? = some (UInt8.ofNat (byteAt c i))
  | 0, c, i, h => by omega
  | n + 1, c, 0, h => by simp [decode, byteAt]
  | n + 1, c, i + 1, h => by
    simp only [decode, List.getElem?_cons_succ]
    rw [decode_get n (c / 256) i (by omega)]
    congr 2
    unfold byteAt
    rw [Nat.shiftRight_eq_div_pow, Nat.shiftRight_eq_div_pow, two_pow_8, two_pow_8, Nat.pow_succ, Nat.div_div_eq_div_mul, Nat.mul_comm]
theorem decode_drop : ∀ (l n c : Nat), l ≤ n → (decode n c).drop l = decode (n - l) (c / 256 ^ l)
  | 0, n, c, h => by simp
  | l + 1, 0, c, h => by omega
  | l + 1, n + 1, c, h => by
    simp only [decode, List.drop_succ_cons]
    rw [decode_drop l n (c / 256) (by omega), Nat.div_div_eq_div_mul, Nat.pow_succ, Nat.mul_comm 256]
    congr 1
    omega
theorem decode_mod : ∀ (k c : Nat), decode k (c % 256 ^ k) = decode k c
  | 0, c => rfl
  | k + 1, c => by
    simp only [decode]
    have h1 : c % 256 ^ (k + 1) % 256 = c % 256 := by
      rw [Nat.mod_mod_of_dvd]; exact ⟨256 ^ k, by rw [Nat.pow_succ, Nat.mul_comm]⟩
    have h2 : c % 256 ^ (k + 1) / 256 = (c / 256) % 256 ^ k := by
      rw [Nat.pow_succ, Nat.mul_comm, Nat.mod_mul_right_div_self]
    rw [h1, h2, decode_mod k]
theorem decode_take : ∀ (k n c : Nat), k ≤ n → (decode n c).take k = decode k c
  | 0, n, c, h => by simp [decode]
  | k + 1, 0, c, h => by omega
  | k + 1, n + 1, c, h => by simp only [decode, List.take_succ_cons]; rw [decode_take k n _ (by omega)]
theorem decode_cut (n c l h : Nat) (h1 : l ≤ h) (h2 : h ≤ n) : decode (h - l) (cut c l h) = ((decode n c).drop l).take (h - l) := by
  unfold cut
  rw [decode_drop l n c (by omega), decode_take _ _ _ (by omega), Nat.shiftRight_eq_div_pow, two_pow_8, two_pow_8, decode_mod]
theorem cut_lt (c l h : Nat) : cut c l h < 256 ^ (h - l) := by
  unfold cut
  rw [two_pow_8]
  exact Nat.mod_lt _ (Nat.pow_pos (by omega))
theorem decode_append : ∀ (n m a b : Nat), a < 256 ^ n → decode (n + m) (a + b <<< (8 * n)) = decode n a ++ decode m b
  | 0, m, a, b, h => by
    simp at h
    subst h
    simp [decode]
  | n + 1, m, a, b, h => by
    have h' : a / 256 < 256 ^ n := by rw [Nat.pow_succ] at h; omega
    rw [show n + 1 + m = (n + m) + 1 by omega]
    simp only [decode, List.cons_append]
    have hs : b <<< (8 * (n + 1)) = 256 * (b <<< (8 * n)) := by
      rw [Nat.shiftLeft_eq, Nat.shiftLeft_eq, two_pow_8, two_pow_8, Nat.pow_succ]
      simp only [Nat.mul_comm, Nat.mul_left_comm]
    rw [hs, show (a + 256 * (b <<< (8 * n))) % 256 = a % 256 by omega, show (a + 256 * (b <<< (8 * n))) / 256 = a / 256 + b <<< (8 * n) by omega, decode_append n m _ _ h']
theorem append_lt {n m a b : Nat} (ha : a < 256 ^ n) (hb : b < 256 ^ m) : a + b <<< (8 * n) < 256 ^ (n + m) := by
  rw [Nat.shiftLeft_eq, two_pow_8, Nat.pow_add]
  have h1 : b + 1 ≤ 256 ^ m := hb
  calc a + b * 256 ^ n < 256 ^ n + b * 256 ^ n := by omega
    _ = (b + 1) * 256 ^ n := by rw [Nat.add_mul, Nat.one_mul, Nat.add_comm]
    _ ≤ 256 ^ m * 256 ^ n := Nat.mul_le_mul_right _ h1
    _ = 256 ^ n * 256 ^ m := Nat.mul_comm _ _
end Go.Ae
