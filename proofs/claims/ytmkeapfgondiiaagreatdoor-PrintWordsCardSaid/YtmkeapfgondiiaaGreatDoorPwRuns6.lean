/- PrintWords, run by the kernel: one theorem for each case. No condition. -/
import Derived.Test.YtmkeapfgondiiaaGreatDoorPwRun
namespace Go.Proofs
set_option maxRecDepth 100000
theorem pw3000 : pwRun 3 0 false 0 = true := by kernel_rfl
theorem pw3001 : pwRun 3 0 false 1 = true := by kernel_rfl
theorem pw3002 : pwRun 3 0 false 2 = true := by kernel_rfl
theorem pw3003 : pwRun 3 0 false 3 = true := by kernel_rfl
theorem pw3010 : pwRun 3 0 true 0 = true := by kernel_rfl
theorem pw3011 : pwRun 3 0 true 1 = true := by kernel_rfl
theorem pw3012 : pwRun 3 0 true 2 = true := by kernel_rfl
theorem pw3013 : pwRun 3 0 true 3 = true := by kernel_rfl
theorem pw3100 : pwRun 3 1 false 0 = true := by kernel_rfl
theorem pw3101 : pwRun 3 1 false 1 = true := by kernel_rfl
theorem pw3102 : pwRun 3 1 false 2 = true := by kernel_rfl
theorem pw3103 : pwRun 3 1 false 3 = true := by kernel_rfl
theorem pw3110 : pwRun 3 1 true 0 = true := by kernel_rfl
theorem pw3111 : pwRun 3 1 true 1 = true := by kernel_rfl
theorem pw3112 : pwRun 3 1 true 2 = true := by kernel_rfl
theorem pw3113 : pwRun 3 1 true 3 = true := by kernel_rfl
end Go.Proofs
