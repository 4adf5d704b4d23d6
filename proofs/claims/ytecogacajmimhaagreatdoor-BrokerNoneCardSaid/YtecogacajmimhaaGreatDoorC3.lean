/-
  THE KNOWN CALLS: that they are so (C3).
-/
import Derived.Test.YtecogacajmimhaaGreatDoorC0
import Derived.KernelRfl
namespace Go.Abs
set_option maxRecDepth 100000
theorem kf84_2332 : ef84_2332.ok [] = true := by kernel_rfl
theorem kf84_3889 : ef84_3889.ok [] = true := by kernel_rfl
theorem kf35_2283 : ef35_2283.ok [ef84_2332] = true := by kernel_rfl
theorem kf54_3889 : ef54_3889.ok [ef84_3889] = true := by kernel_rfl
theorem kf6_11 : ef6_11.ok [ef32_146, ef32_210, ef32_360, ef32_440, ef32_504] = true := by kernel_rfl
theorem kf16_705 : ef16_705.ok [ef100_778] = true := by kernel_rfl
theorem kf21_881 : ef21_881.ok [ef100_1050, ef100_1154, ef100_1366, ef100_1470] = true := by kernel_rfl
end Go.Abs
