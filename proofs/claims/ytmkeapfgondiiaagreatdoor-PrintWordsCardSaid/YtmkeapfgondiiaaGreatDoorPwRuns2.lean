/- PrintWords, run by the kernel: one theorem for each case. No condition. -/
import Derived.Test.YtmkeapfgondiiaaGreatDoorPwRun
namespace Go.Proofs
set_option maxRecDepth 100000
theorem pw1000 : pwRun 1 0 false 0 = true := by kernel_rfl
theorem pw1001 : pwRun 1 0 false 1 = true := by kernel_rfl
theorem pw1002 : pwRun 1 0 false 2 = true := by kernel_rfl
theorem pw1003 : pwRun 1 0 false 3 = true := by kernel_rfl
theorem pw1010 : pwRun 1 0 true 0 = true := by kernel_rfl
theorem pw1011 : pwRun 1 0 true 1 = true := by kernel_rfl
theorem pw1012 : pwRun 1 0 true 2 = true := by kernel_rfl
theorem pw1013 : pwRun 1 0 true 3 = true := by kernel_rfl
theorem pw1100 : pwRun 1 1 false 0 = true := by kernel_rfl
theorem pw1101 : pwRun 1 1 false 1 = true := by kernel_rfl
theorem pw1102 : pwRun 1 1 false 2 = true := by kernel_rfl
theorem pw1103 : pwRun 1 1 false 3 = true := by kernel_rfl
theorem pw1110 : pwRun 1 1 true 0 = true := by kernel_rfl
theorem pw1111 : pwRun 1 1 true 1 = true := by kernel_rfl
theorem pw1112 : pwRun 1 1 true 2 = true := by kernel_rfl
theorem pw1113 : pwRun 1 1 true 3 = true := by kernel_rfl
end Go.Proofs
