/- PrintWords, run by the kernel: one theorem for each case. No condition. -/
import Derived.Test.YtmkeapfgondiiaaGreatDoorPwRun
namespace Go.Proofs
set_option maxRecDepth 100000
theorem pw4000 : pwRun 4 0 false 0 = true := by kernel_rfl
theorem pw4001 : pwRun 4 0 false 1 = true := by kernel_rfl
theorem pw4002 : pwRun 4 0 false 2 = true := by kernel_rfl
theorem pw4003 : pwRun 4 0 false 3 = true := by kernel_rfl
theorem pw4010 : pwRun 4 0 true 0 = true := by kernel_rfl
theorem pw4011 : pwRun 4 0 true 1 = true := by kernel_rfl
theorem pw4012 : pwRun 4 0 true 2 = true := by kernel_rfl
theorem pw4013 : pwRun 4 0 true 3 = true := by kernel_rfl
theorem pw4100 : pwRun 4 1 false 0 = true := by kernel_rfl
theorem pw4101 : pwRun 4 1 false 1 = true := by kernel_rfl
theorem pw4102 : pwRun 4 1 false 2 = true := by kernel_rfl
theorem pw4103 : pwRun 4 1 false 3 = true := by kernel_rfl
theorem pw4110 : pwRun 4 1 true 0 = true := by kernel_rfl
theorem pw4111 : pwRun 4 1 true 1 = true := by kernel_rfl
theorem pw4112 : pwRun 4 1 true 2 = true := by kernel_rfl
theorem pw4113 : pwRun 4 1 true 3 = true := by kernel_rfl
end Go.Proofs
