/- PrintWords, run by the kernel: one theorem for each case. No condition. -/
import Derived.Test.YtmkeapfgondiiaaGreatDoorPwRun
namespace Go.Proofs
set_option maxRecDepth 100000
theorem pw4200 : pwRun 4 2 false 0 = true := by kernel_rfl
theorem pw4201 : pwRun 4 2 false 1 = true := by kernel_rfl
theorem pw4202 : pwRun 4 2 false 2 = true := by kernel_rfl
theorem pw4203 : pwRun 4 2 false 3 = true := by kernel_rfl
theorem pw4210 : pwRun 4 2 true 0 = true := by kernel_rfl
theorem pw4211 : pwRun 4 2 true 1 = true := by kernel_rfl
theorem pw4212 : pwRun 4 2 true 2 = true := by kernel_rfl
theorem pw4213 : pwRun 4 2 true 3 = true := by kernel_rfl
theorem pw4300 : pwRun 4 3 false 0 = true := by kernel_rfl
theorem pw4301 : pwRun 4 3 false 1 = true := by kernel_rfl
theorem pw4302 : pwRun 4 3 false 2 = true := by kernel_rfl
theorem pw4303 : pwRun 4 3 false 3 = true := by kernel_rfl
theorem pw4310 : pwRun 4 3 true 0 = true := by kernel_rfl
theorem pw4311 : pwRun 4 3 true 1 = true := by kernel_rfl
theorem pw4312 : pwRun 4 3 true 2 = true := by kernel_rfl
theorem pw4313 : pwRun 4 3 true 3 = true := by kernel_rfl
end Go.Proofs
