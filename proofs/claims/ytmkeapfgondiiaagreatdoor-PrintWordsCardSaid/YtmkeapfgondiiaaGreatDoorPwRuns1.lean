/- PrintWords, run by the kernel: one theorem for each case. No condition. -/
import Derived.Test.YtmkeapfgondiiaaGreatDoorPwRun
namespace Go.Proofs
set_option maxRecDepth 100000
theorem pw0200 : pwRun 0 2 false 0 = true := by kernel_rfl
theorem pw0201 : pwRun 0 2 false 1 = true := by kernel_rfl
theorem pw0202 : pwRun 0 2 false 2 = true := by kernel_rfl
theorem pw0203 : pwRun 0 2 false 3 = true := by kernel_rfl
theorem pw0210 : pwRun 0 2 true 0 = true := by kernel_rfl
theorem pw0211 : pwRun 0 2 true 1 = true := by kernel_rfl
theorem pw0212 : pwRun 0 2 true 2 = true := by kernel_rfl
theorem pw0213 : pwRun 0 2 true 3 = true := by kernel_rfl
theorem pw0300 : pwRun 0 3 false 0 = true := by kernel_rfl
theorem pw0301 : pwRun 0 3 false 1 = true := by kernel_rfl
theorem pw0302 : pwRun 0 3 false 2 = true := by kernel_rfl
theorem pw0303 : pwRun 0 3 false 3 = true := by kernel_rfl
theorem pw0310 : pwRun 0 3 true 0 = true := by kernel_rfl
theorem pw0311 : pwRun 0 3 true 1 = true := by kernel_rfl
theorem pw0312 : pwRun 0 3 true 2 = true := by kernel_rfl
theorem pw0313 : pwRun 0 3 true 3 = true := by kernel_rfl
end Go.Proofs
