/- PrintWords, how a run is asked. No condition. -/
import Derived.Test.YtmkeapfgondiiaaGreatDoorPwBase
namespace Go.Proofs
open Go Go.Ae
noncomputable def pwPv (a b c : Nat) : Nat → Nat → Option Nat := fun i n => match i, n with
  | 0, 5 => some a
  | 1, 4 => some b
  | 2, 4 => some c
  | _, _ => none
noncomputable def pwRun (a b : Nat) (al : Bool) (c : Nat) : Bool := (fast Tryz.prog (fun _ => none) (hookPA 13 6 (pwPv a b c)) tab.at 5 [.opq 0, .opq 1, .bool al, .opq 2] Hp.empty).is (.bool true)
noncomputable def pwRuns (a b : Nat) : Bool := [(false, 0), (false, 1), (false, 2), (false, 3), (true, 0), (true, 1), (true, 2), (true, 3)].all fun x => pwRun a b x.1 x.2
end Go.Proofs
