/- SdlWrong, run by the kernel: one theorem for each case. No condition. -/
import Derived.Test.YteginejafomfmaaGreatDoorSwRun
namespace Go.Proofs
set_option maxRecDepth 100000
theorem sw5_0 : swRun 5 0 = true := by kernel_rfl
theorem sw5_1 : swRun 5 1 = true := by kernel_rfl
theorem sw5_2 : swRun 5 2 = true := by kernel_rfl
theorem sw5_3 : swRun 5 3 = true := by kernel_rfl
theorem sw5_4 : swRun 5 4 = true := by kernel_rfl
theorem sw5_5 : swRun 5 5 = true := by kernel_rfl
theorem sw5_6 : swRun 5 6 = true := by kernel_rfl
theorem sw5_7 : swRun 5 7 = true := by kernel_rfl
theorem sw5_8 : swRun 5 8 = true := by kernel_rfl
theorem sw5_9 : swRun 5 9 = true := by kernel_rfl
theorem sw6_0 : swRun 6 0 = true := by kernel_rfl
theorem sw6_1 : swRun 6 1 = true := by kernel_rfl
theorem sw6_2 : swRun 6 2 = true := by kernel_rfl
theorem sw6_3 : swRun 6 3 = true := by kernel_rfl
theorem sw6_4 : swRun 6 4 = true := by kernel_rfl
theorem sw6_5 : swRun 6 5 = true := by kernel_rfl
theorem sw6_6 : swRun 6 6 = true := by kernel_rfl
theorem sw6_7 : swRun 6 7 = true := by kernel_rfl
theorem sw6_8 : swRun 6 8 = true := by kernel_rfl
theorem sw6_9 : swRun 6 9 = true := by kernel_rfl
theorem sw7_0 : swRun 7 0 = true := by kernel_rfl
theorem sw7_1 : swRun 7 1 = true := by kernel_rfl
theorem sw7_2 : swRun 7 2 = true := by kernel_rfl
theorem sw7_3 : swRun 7 3 = true := by kernel_rfl
theorem sw7_4 : swRun 7 4 = true := by kernel_rfl
theorem sw7_5 : swRun 7 5 = true := by kernel_rfl
theorem sw7_6 : swRun 7 6 = true := by kernel_rfl
theorem sw7_7 : swRun 7 7 = true := by kernel_rfl
theorem sw7_8 : swRun 7 8 = true := by kernel_rfl
theorem sw7_9 : swRun 7 9 = true := by kernel_rfl
theorem sw8_0 : swRun 8 0 = true := by kernel_rfl
theorem sw8_1 : swRun 8 1 = true := by kernel_rfl
theorem sw8_2 : swRun 8 2 = true := by kernel_rfl
theorem sw8_3 : swRun 8 3 = true := by kernel_rfl
theorem sw8_4 : swRun 8 4 = true := by kernel_rfl
theorem sw8_5 : swRun 8 5 = true := by kernel_rfl
theorem sw8_6 : swRun 8 6 = true := by kernel_rfl
theorem sw8_7 : swRun 8 7 = true := by kernel_rfl
theorem sw8_8 : swRun 8 8 = true := by kernel_rfl
theorem sw8_9 : swRun 8 9 = true := by kernel_rfl
theorem sw9_0 : swRun 9 0 = true := by kernel_rfl
theorem sw9_1 : swRun 9 1 = true := by kernel_rfl
theorem sw9_2 : swRun 9 2 = true := by kernel_rfl
theorem sw9_3 : swRun 9 3 = true := by kernel_rfl
theorem sw9_4 : swRun 9 4 = true := by kernel_rfl
theorem sw9_5 : swRun 9 5 = true := by kernel_rfl
theorem sw9_6 : swRun 9 6 = true := by kernel_rfl
theorem sw9_7 : swRun 9 7 = true := by kernel_rfl
theorem sw9_8 : swRun 9 8 = true := by kernel_rfl
theorem sw9_9 : swRun 9 9 = true := by kernel_rfl
end Go.Proofs
