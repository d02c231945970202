import Derived.Test.YtmkeapfgondiiaaGreatDoorPnRun0
namespace Go.Proofs
set_option maxRecDepth 100000
theorem pn1 : pnRun 1 = true := by kernel_rfl
theorem pn2 : pnRun 2 = true := by kernel_rfl
theorem pn3 : pnRun 3 = true := by kernel_rfl
theorem pn4 : pnRun 4 = true := by kernel_rfl
theorem pn5 : pnRun 5 = true := by kernel_rfl
theorem pn6 : pnRun 6 = true := by kernel_rfl
theorem pn7 : pnRun 7 = true := by kernel_rfl
end Go.Proofs
