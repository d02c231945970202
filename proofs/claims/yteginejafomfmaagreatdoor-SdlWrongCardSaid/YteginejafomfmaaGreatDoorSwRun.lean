/- SdlWrong, how a run is asked. No condition. -/
import Derived.Test.YteginejafomfmaaGreatDoorSwBase
namespace Go.Proofs
open Go Go.Ae
noncomputable def swPv (k a : Nat) : Nat → Nat → Option Nat := fun i n => match i, n with
  | 0, 10 => some k
  | 1, 10 => some a
  | _, _ => none
/-- The place of the variable strconv.ErrSyntax: its value is not looked at. -/
noncomputable def swG (g : Nat) : Nat → Option AVal := fun i => Bool.rec none (some (.opq 2)) (Nat.beq i g)
noncomputable def swRun (k a : Nat) : Bool := (fast Tryz.prog (swG 4) (hookPA 8 11 (swPv k a)) tab.at 5 [.opq 0, .opq 1] Hp.empty).is (.bool true)
end Go.Proofs
