/- SdlWrong, run by the kernel: one theorem for each case. No condition. -/
import Derived.Test.YteginejafomfmaaGreatDoorSwRun
namespace Go.Proofs
set_option maxRecDepth 100000
theorem sw0_0 : swRun 0 0 = true := by kernel_rfl
theorem sw0_1 : swRun 0 1 = true := by kernel_rfl
theorem sw0_2 : swRun 0 2 = true := by kernel_rfl
theorem sw0_3 : swRun 0 3 = true := by kernel_rfl
theorem sw0_4 : swRun 0 4 = true := by kernel_rfl
theorem sw0_5 : swRun 0 5 = true := by kernel_rfl
theorem sw0_6 : swRun 0 6 = true := by kernel_rfl
theorem sw0_7 : swRun 0 7 = true := by kernel_rfl
theorem sw0_8 : swRun 0 8 = true := by kernel_rfl
theorem sw0_9 : swRun 0 9 = true := by kernel_rfl
theorem sw1_0 : swRun 1 0 = true := by kernel_rfl
theorem sw1_1 : swRun 1 1 = true := by kernel_rfl
theorem sw1_2 : swRun 1 2 = true := by kernel_rfl
theorem sw1_3 : swRun 1 3 = true := by kernel_rfl
theorem sw1_4 : swRun 1 4 = true := by kernel_rfl
theorem sw1_5 : swRun 1 5 = true := by kernel_rfl
theorem sw1_6 : swRun 1 6 = true := by kernel_rfl
theorem sw1_7 : swRun 1 7 = true := by kernel_rfl
theorem sw1_8 : swRun 1 8 = true := by kernel_rfl
theorem sw1_9 : swRun 1 9 = true := by kernel_rfl
theorem sw2_0 : swRun 2 0 = true := by kernel_rfl
theorem sw2_1 : swRun 2 1 = true := by kernel_rfl
theorem sw2_2 : swRun 2 2 = true := by kernel_rfl
theorem sw2_3 : swRun 2 3 = true := by kernel_rfl
theorem sw2_4 : swRun 2 4 = true := by kernel_rfl
theorem sw2_5 : swRun 2 5 = true := by kernel_rfl
theorem sw2_6 : swRun 2 6 = true := by kernel_rfl
theorem sw2_7 : swRun 2 7 = true := by kernel_rfl
theorem sw2_8 : swRun 2 8 = true := by kernel_rfl
theorem sw2_9 : swRun 2 9 = true := by kernel_rfl
theorem sw3_0 : swRun 3 0 = true := by kernel_rfl
theorem sw3_1 : swRun 3 1 = true := by kernel_rfl
theorem sw3_2 : swRun 3 2 = true := by kernel_rfl
theorem sw3_3 : swRun 3 3 = true := by kernel_rfl
theorem sw3_4 : swRun 3 4 = true := by kernel_rfl
theorem sw3_5 : swRun 3 5 = true := by kernel_rfl
theorem sw3_6 : swRun 3 6 = true := by kernel_rfl
theorem sw3_7 : swRun 3 7 = true := by kernel_rfl
theorem sw3_8 : swRun 3 8 = true := by kernel_rfl
theorem sw3_9 : swRun 3 9 = true := by kernel_rfl
theorem sw4_0 : swRun 4 0 = true := by kernel_rfl
theorem sw4_1 : swRun 4 1 = true := by kernel_rfl
theorem sw4_2 : swRun 4 2 = true := by kernel_rfl
theorem sw4_3 : swRun 4 3 = true := by kernel_rfl
theorem sw4_4 : swRun 4 4 = true := by kernel_rfl
theorem sw4_5 : swRun 4 5 = true := by kernel_rfl
theorem sw4_6 : swRun 4 6 = true := by kernel_rfl
theorem sw4_7 : swRun 4 7 = true := by kernel_rfl
theorem sw4_8 : swRun 4 8 = true := by kernel_rfl
theorem sw4_9 : swRun 4 9 = true := by kernel_rfl
end Go.Proofs
