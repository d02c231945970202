/- PrintWords, run by the kernel: one theorem for each case. No condition. -/
import Derived.Test.YtmkeapfgondiiaaGreatDoorPwRun
namespace Go.Proofs
set_option maxRecDepth 100000
theorem pw3200 : pwRun 3 2 false 0 = true := by kernel_rfl
theorem pw3201 : pwRun 3 2 false 1 = true := by kernel_rfl
theorem pw3202 : pwRun 3 2 false 2 = true := by kernel_rfl
theorem pw3203 : pwRun 3 2 false 3 = true := by kernel_rfl
theorem pw3210 : pwRun 3 2 true 0 = true := by kernel_rfl
theorem pw3211 : pwRun 3 2 true 1 = true := by kernel_rfl
theorem pw3212 : pwRun 3 2 true 2 = true := by kernel_rfl
theorem pw3213 : pwRun 3 2 true 3 = true := by kernel_rfl
theorem pw3300 : pwRun 3 3 false 0 = true := by kernel_rfl
theorem pw3301 : pwRun 3 3 false 1 = true := by kernel_rfl
theorem pw3302 : pwRun 3 3 false 2 = true := by kernel_rfl
theorem pw3303 : pwRun 3 3 false 3 = true := by kernel_rfl
theorem pw3310 : pwRun 3 3 true 0 = true := by kernel_rfl
theorem pw3311 : pwRun 3 3 true 1 = true := by kernel_rfl
theorem pw3312 : pwRun 3 3 true 2 = true := by kernel_rfl
theorem pw3313 : pwRun 3 3 true 3 = true := by kernel_rfl
end Go.Proofs
