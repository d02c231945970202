/- PrintWords, run by the kernel: one theorem for each case. No condition. -/
import Derived.Test.YtmkeapfgondiiaaGreatDoorPwRun
namespace Go.Proofs
set_option maxRecDepth 100000
theorem pw1200 : pwRun 1 2 false 0 = true := by kernel_rfl
theorem pw1201 : pwRun 1 2 false 1 = true := by kernel_rfl
theorem pw1202 : pwRun 1 2 false 2 = true := by kernel_rfl
theorem pw1203 : pwRun 1 2 false 3 = true := by kernel_rfl
theorem pw1210 : pwRun 1 2 true 0 = true := by kernel_rfl
theorem pw1211 : pwRun 1 2 true 1 = true := by kernel_rfl
theorem pw1212 : pwRun 1 2 true 2 = true := by kernel_rfl
theorem pw1213 : pwRun 1 2 true 3 = true := by kernel_rfl
theorem pw1300 : pwRun 1 3 false 0 = true := by kernel_rfl
theorem pw1301 : pwRun 1 3 false 1 = true := by kernel_rfl
theorem pw1302 : pwRun 1 3 false 2 = true := by kernel_rfl
theorem pw1303 : pwRun 1 3 false 3 = true := by kernel_rfl
theorem pw1310 : pwRun 1 3 true 0 = true := by kernel_rfl
theorem pw1311 : pwRun 1 3 true 1 = true := by kernel_rfl
theorem pw1312 : pwRun 1 3 true 2 = true := by kernel_rfl
theorem pw1313 : pwRun 1 3 true 3 = true := by kernel_rfl
end Go.Proofs
