/- PrintWords, run by the kernel: one theorem for each case. No condition. -/
import Derived.Test.YtmkeapfgondiiaaGreatDoorPwRun
namespace Go.Proofs
set_option maxRecDepth 100000
theorem pw2200 : pwRun 2 2 false 0 = true := by kernel_rfl
theorem pw2201 : pwRun 2 2 false 1 = true := by kernel_rfl
theorem pw2202 : pwRun 2 2 false 2 = true := by kernel_rfl
theorem pw2203 : pwRun 2 2 false 3 = true := by kernel_rfl
theorem pw2210 : pwRun 2 2 true 0 = true := by kernel_rfl
theorem pw2211 : pwRun 2 2 true 1 = true := by kernel_rfl
theorem pw2212 : pwRun 2 2 true 2 = true := by kernel_rfl
theorem pw2213 : pwRun 2 2 true 3 = true := by kernel_rfl
theorem pw2300 : pwRun 2 3 false 0 = true := by kernel_rfl
theorem pw2301 : pwRun 2 3 false 1 = true := by kernel_rfl
theorem pw2302 : pwRun 2 3 false 2 = true := by kernel_rfl
theorem pw2303 : pwRun 2 3 false 3 = true := by kernel_rfl
theorem pw2310 : pwRun 2 3 true 0 = true := by kernel_rfl
theorem pw2311 : pwRun 2 3 true 1 = true := by kernel_rfl
theorem pw2312 : pwRun 2 3 true 2 = true := by kernel_rfl
theorem pw2313 : pwRun 2 3 true 3 = true := by kernel_rfl
end Go.Proofs
