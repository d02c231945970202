/- The evaluator's answer does not hang on how much fuel it was given. No condition. -/
import Derived.Test.YteginejafomfmaaGreatDoorAeSpec
set_option linter.unusedVariables false
set_option linter.unusedSimpArgs false
namespace Go.Ae
open Go
section
variable {P : Program} {G : Nat → Option AVal} {H : Hook}

structure Mono (P : Program) (G : Nat → Option AVal) (H : Hook) (n m : Nat) : Prop where
  op : ∀ {fr h o r}, evalOp P G H n fr h o = some r → evalOp P G H m fr h o = some r
  ops : ∀ {ops l fr h r}, evalOps P G H n ops l fr h = some r → evalOps P G H m ops l fr h = some r
  draw : ∀ {ops l p i s r}, evalDraw P G H n ops l p i s = some r → evalDraw P G H m ops l p i s = some r
  code : ∀ {c fr h r}, evalCode P G H n c fr h = some r → evalCode P G H m c fr h = some r
  call : ∀ {f args h r}, evalCall P G H n f args h = some r → evalCall P G H m f args h = some r

theorem mono_zero (m : Nat) : Mono P G H 0 m where
  op := fun h => by simp [evalOp] at h
  ops := fun h => by simp [evalOps] at h
  draw := fun h => by simp [evalDraw] at h
  code := fun h => by simp [evalCode] at h
  call := fun h => by simp [evalCall] at h

theorem mono_succ {n m : Nat} (ih : Mono P G H n m) : Mono P G H (n + 1) (m + 1) where
  op := fun {fr h o r} he => by
    unfold evalOp at he ⊢
    split at he
    · exact he
    · exact he
    · exact he
    · split at he
      · split at he
        · exact he
        · split at he
          · exact ih.call he
          · cases he
      · exact he
  ops := fun {ops l fr h r} he => by
    cases l with
    | nil => simpa [evalOps] using he
    | cons o l =>
      unfold evalOps at he ⊢
      cases hw : wantedA ops fr o with
      | true =>
        rw [hw, cond_true] at he; rw [cond_true]
        split at he
        · rename_i v h' ho; rw [ih.op ho]; exact ih.ops he
        · cases he
      | false => rw [hw, cond_false] at he; rw [cond_false]; exact ih.ops he
  draw := fun {ops l p i s r} he => by
    cases l with
    | nil => simpa [evalDraw] using he
    | cons o l =>
      unfold evalDraw at he ⊢
      cases hw : wantedA ops s.fr o with
      | true =>
        rw [hw, cond_true] at he; rw [cond_true]
        split at he
        · split at he
          · exact ih.draw he
          · cases he
        · split at he
          · exact ih.draw he
          · cases he
        · split at he
          · exact ih.draw he
          · cases he
        · split at he
          · rename_i v h' ho; rw [ih.op ho]; exact ih.draw he
          · cases he
      | false =>
        rw [hw, cond_false] at he; rw [cond_false]
        split at he
        · exact ih.draw he
        · exact ih.draw he
  code := fun {c fr h r} he => by
    unfold evalCode at he ⊢
    cases c with
    | region id ops d =>
      cases d with
      | false =>
        simp only at he ⊢
        split at he
        · rename_i x y ho; rw [ih.ops ho]; exact he
        · cases he
      | true =>
        simp only at he ⊢
        cases ho : orderly P ops.toList with
        | false => rw [ho] at he; cases he
        | true =>
          rw [ho, cond_true] at he; rw [cond_true]
          split at he
          · rename_i s hs; rw [ih.draw hs]; exact he
          · cases he
    | seq a b =>
      simp only at he ⊢
      cases ha : evalCode P G H n a fr h with
      | none => rw [ha] at he; cases he
      | some ra =>
        rw [ha] at he; rw [ih.code ha]
        obtain ⟨ex, f', h'⟩ := ra
        cases ex with
        | normal => exact ih.code he
        | _ => exact he
    | cond x a b =>
      simp only at he ⊢
      split at he
      · exact ih.code he
      · exact ih.code he
      · cases he
    | block id b =>
      simp only at he ⊢
      cases ha : evalCode P G H n b fr h with
      | none => rw [ha] at he; cases he
      | some ra => rw [ha] at he; rw [ih.code ha]; exact he
    | loop b =>
      simp only at he ⊢
      cases ha : evalCode P G H n b fr h with
      | none => rw [ha] at he; cases he
      | some ra =>
        rw [ha] at he; rw [ih.code ha]
        obtain ⟨ex, f', h'⟩ := ra
        cases ex with
        | normal => exact ih.code he
        | _ => exact he
    | scope b =>
      simp only at he ⊢
      cases ha : evalCode P G H n b fr h with
      | none => rw [ha] at he; cases he
      | some ra => rw [ha] at he; rw [ih.code ha]; exact he
    | _ => exact he
  call := fun {f args h r} he => by
    unfold evalCall at he ⊢
    split at he
    · exact he
    · split at he
      · split at he
        · exact he
        · split at he
          · rename_i f' h' hc; rw [ih.code hc]; exact he
          · rename_i f' h' hc; rw [ih.code hc]; exact he
          · cases he
      · cases he

theorem mono_add (P : Program) (G : Nat → Option AVal) (H : Hook) (k : Nat) : ∀ n, Mono P G H n (n + k)
  | 0 => mono_zero _
  | n + 1 => by
    have e : n + 1 + k = (n + k) + 1 := by omega
    rw [e]; exact mono_succ (mono_add P G H k n)
theorem mono (P : Program) (G : Nat → Option AVal) (H : Hook) {n m : Nat} (h : n ≤ m) : Mono P G H n m := by
  obtain ⟨k, rfl⟩ := Nat.exists_eq_add_of_le h
  exact mono_add P G H k n
end
end Go.Ae
