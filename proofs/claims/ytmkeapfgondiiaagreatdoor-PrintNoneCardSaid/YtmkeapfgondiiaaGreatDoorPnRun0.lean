/- PrintNone, run by the evaluator: one theorem for each of the eight cases. -/
import Derived.Test.YtmkeapfgondiiaaGreatDoorAeSpec
import Derived.Test.YtmkeapfgondiiaaGreatDoorProg
import Derived.KernelRfl
namespace Go.Proofs
open Go Go.Ae
noncomputable def pnHook (r : Nat) : Hook := ⟨fun _ _ _ => none, fun op x y => match op, x, y with
  | .and, .opq 0, .int .i64 7 => some (.int .i64 r)
  | _, _, _ => none⟩
noncomputable def pnRun (r : Nat) : Bool := match evalCall Tryz.prog (fun _ => none) (pnHook r) 100000 4 [.opq 0] Hp.empty with
  | some (.bool b, _) => b
  | _ => false
set_option maxRecDepth 100000 in
theorem pn0 : pnRun 0 = true := by kernel_rfl
