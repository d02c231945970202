/- PrintWords, run by the kernel: one theorem for each case. No condition. -/
import Derived.Test.YtmkeapfgondiiaaGreatDoorPwRun
namespace Go.Proofs
set_option maxRecDepth 100000
theorem pw2000 : pwRun 2 0 false 0 = true := by kernel_rfl
theorem pw2001 : pwRun 2 0 false 1 = true := by kernel_rfl
theorem pw2002 : pwRun 2 0 false 2 = true := by kernel_rfl
theorem pw2003 : pwRun 2 0 false 3 = true := by kernel_rfl
theorem pw2010 : pwRun 2 0 true 0 = true := by kernel_rfl
theorem pw2011 : pwRun 2 0 true 1 = true := by kernel_rfl
theorem pw2012 : pwRun 2 0 true 2 = true := by kernel_rfl
theorem pw2013 : pwRun 2 0 true 3 = true := by kernel_rfl
theorem pw2100 : pwRun 2 1 false 0 = true := by kernel_rfl
theorem pw2101 : pwRun 2 1 false 1 = true := by kernel_rfl
theorem pw2102 : pwRun 2 1 false 2 = true := by kernel_rfl
theorem pw2103 : pwRun 2 1 false 3 = true := by kernel_rfl
theorem pw2110 : pwRun 2 1 true 0 = true := by kernel_rfl
theorem pw2111 : pwRun 2 1 true 1 = true := by kernel_rfl
theorem pw2112 : pwRun 2 1 true 2 = true := by kernel_rfl
theorem pw2113 : pwRun 2 1 true 3 = true := by kernel_rfl
end Go.Proofs
