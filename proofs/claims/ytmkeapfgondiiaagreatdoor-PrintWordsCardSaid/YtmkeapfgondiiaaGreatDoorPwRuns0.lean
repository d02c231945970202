/- PrintWords, run by the kernel: one theorem for each case. No condition. -/
import Derived.Test.YtmkeapfgondiiaaGreatDoorPwRun
namespace Go.Proofs
set_option maxRecDepth 100000
theorem pw0000 : pwRun 0 0 false 0 = true := by kernel_rfl
theorem pw0001 : pwRun 0 0 false 1 = true := by kernel_rfl
theorem pw0002 : pwRun 0 0 false 2 = true := by kernel_rfl
theorem pw0003 : pwRun 0 0 false 3 = true := by kernel_rfl
theorem pw0010 : pwRun 0 0 true 0 = true := by kernel_rfl
theorem pw0011 : pwRun 0 0 true 1 = true := by kernel_rfl
theorem pw0012 : pwRun 0 0 true 2 = true := by kernel_rfl
theorem pw0013 : pwRun 0 0 true 3 = true := by kernel_rfl
theorem pw0100 : pwRun 0 1 false 0 = true := by kernel_rfl
theorem pw0101 : pwRun 0 1 false 1 = true := by kernel_rfl
theorem pw0102 : pwRun 0 1 false 2 = true := by kernel_rfl
theorem pw0103 : pwRun 0 1 false 3 = true := by kernel_rfl
theorem pw0110 : pwRun 0 1 true 0 = true := by kernel_rfl
theorem pw0111 : pwRun 0 1 true 1 = true := by kernel_rfl
theorem pw0112 : pwRun 0 1 true 2 = true := by kernel_rfl
theorem pw0113 : pwRun 0 1 true 3 = true := by kernel_rfl
end Go.Proofs
