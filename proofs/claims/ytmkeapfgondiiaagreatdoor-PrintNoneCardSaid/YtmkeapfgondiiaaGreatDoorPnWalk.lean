/- PrintNone: every run of the model answers true. -/
import Derived.Test.YtmkeapfgondiiaaGreatDoorAeCode
import Derived.Test.YtmkeapfgondiiaaGreatDoorPnRun
import Derived.Test.YtmkeapfgondiiaaGreatDoorChecked
import Derived.Eval
import Derived.RowKit3
set_option linter.unusedVariables false
set_option linter.unusedSimpArgs false
namespace Go.Proofs
open Go Go.Ae

theorem Frm.kept {β β' : Beta} {h' : Hp} {w w' : World} (f : Frm β Hp.empty w β' h' w') : w.keptBut w' (fun _ => False) := by
  refine ⟨f.os, f.output, fun i hi => ?_⟩
  have he : w'.heap[i]? = w.heap[i]? := f.same i hi fun b x L hb => by simp [Hp.get, Hp.empty, T.get] at hb
  rw [he]
  cases w.heap[i]? with
  | none => rfl
  | some o => cases o <;> first | exact ⟨rfl, rfl, rfl, fun _ _ => rfl⟩ | exact .inr ⟨rfl, rfl⟩ | rfl

theorem Rel.start (E : Env) (hG : E.G = fun _ => none) (h0 : E.base = 0) (W : World) : Rel E (fun _ => none) Hp.empty W where
  blk := fun b x hb => by simp [Hp.get, Hp.empty, T.get] at hb
  inj := fun b b' x x' L L' hb => by simp [Hp.get, Hp.empty, T.get] at hb
  fresh := fun _ _ => rfl
  glob := fun g v hg => by rw [hG] at hg; cases hg
  size := by rw [h0]; exact Nat.zero_le _

theorem run_and7 {P : Program} {o : Oper} {t z : TypeId} {p q : Operand} (ho : o.op = .binOp .and t p q z) {a : Act} {n : Int} (hp : a.eval p = .int .i64 n) (hq : a.eval q = .int .i64 7) (w : World) :
    (execOp a.eval o).run P w = .ok (.value (.int .i64 (((BitVec.ofInt 64 n).toNat &&& 7 : Nat) : Int))) w := by
  have hg : (eqGuard .and t p q (.int .i64 n) (.int .i64 7)).run P w = .ok () w := rfl
  have h7 : (BitVec.ofInt 64 7).toNat = 7 := by decide
  have hle : (BitVec.ofInt 64 n).toNat &&& 7 ≤ 7 := Nat.and_le_right
  simp only [execOp, ho, hp, hq, Sem.run_bind, hg, Result.andThen_ok, binOp]
  simp only [if_neg (show ¬ (IntKind.i64 ≠ IntKind.i64) by simp), Op.intBits, Sem.run_pure, Result.andThen_ok]
  have key : ∀ m : Nat, m ≤ 7 → IntKind.i64.wrap (m : Int) = m := by
    intro m hm
    have : m = 0 ∨ m = 1 ∨ m = 2 ∨ m = 3 ∨ m = 4 ∨ m = 5 ∨ m = 6 ∨ m = 7 := by omega
    rcases this with rfl | rfl | rfl | rfl | rfl | rfl | rfl | rfl <;> decide
  have hb : (BitVec.ofInt IntKind.i64.bits n &&& BitVec.ofInt IntKind.i64.bits 7).toNat = (BitVec.ofInt 64 n).toNat &&& 7 := by
    rw [BitVec.toNat_and]; exact congrArg _ h7
  rw [hb]
  show Result.ok (Next.value (Value.int IntKind.i64 (IntKind.i64.wrap (((BitVec.ofInt 64 n).toNat &&& 7 : Nat) : Int)))) w = _
  rw [key _ hle]

theorem pn_all : ∀ m, m < 8 → pnRun m = true
  | 0, _ => pn0 | 1, _ => pn1 | 2, _ => pn2 | 3, _ => pn3 | 4, _ => pn4 | 5, _ => pn5 | 6, _ => pn6 | 7, _ => pn7
  | n + 8, h => by omega

theorem Tryz.fits : fitsP Tryz.prog = true := by kernel_rfl

theorem pn_walk (n : Int) (W : World) : Calls Tryz.prog 4 #[.int .i64 n] W fun e w' => e = .returned (.bool true) ∧ W.keptBut w' (fun _ => False) := by
  have hm : (BitVec.ofInt 64 n).toNat &&& 7 < 8 := Nat.lt_of_le_of_lt Nat.and_le_right (by decide)
  generalize hr : (BitVec.ofInt 64 n).toNat &&& 7 = m at hm
  have hrun := pn_all m hm
  unfold pnRun at hrun
  cases hev : evalCall Tryz.prog (fun _ => none) (pnHook m) 100000 4 [.opq 0] Hp.empty with
  | none => rw [hev] at hrun; cases hrun
  | some vh =>
    obtain ⟨v, h'⟩ := vh
    rw [hev] at hrun
    cases v with
    | bool b =>
      simp only at hrun
      subst hrun
      let E : Env := ⟨fun _ => .int .i64 n, fun _ => none, 0⟩
      have hook : HookOk Tryz.prog E (pnHook m) := by
        refine ⟨fun _ _ _ _ _ h => (by cases h), fun op x y v h β a o t p q z ho hx hy => ?_⟩
        simp only [pnHook] at h
        split at h
        · simp only [Option.some.injEq] at h
          subst h
          generalize hcx : a.eval p = cx at hx
          generalize hcy : a.eval q = cy at hy
          cases hy
          cases hx
          exact ⟨_, fun w => run_and7 ho hcx hcy w, by rw [hr]; exact .int _ _⟩
        · cases h
      have ok := calls_sound (E := E) (Checked.mixed Tryz.checked) Tryz.fits hook Tryz.func4 (by kernel_rfl) hev
      refine (ok (fun _ => none) W [.int .i64 n] (Rel.start E rfl rfl W) (.cons (.opq 0 rfl (by intro b h; cases h)) .nil)).mono fun e w' he => ?_
      obtain ⟨cv, β', rfl, hv, _, hf⟩ := he
      cases hv
      exact ⟨rfl, Frm.kept hf⟩
    | _ => simp at hrun
end Go.Proofs
