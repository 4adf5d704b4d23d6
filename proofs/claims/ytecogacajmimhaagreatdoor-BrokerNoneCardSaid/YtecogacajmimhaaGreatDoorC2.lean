/-
  THE KNOWN CALLS: that they are so (C2).
-/
import Derived.Test.YtecogacajmimhaaGreatDoorC0
import Derived.KernelRfl
namespace Go.Abs
set_option maxRecDepth 100000
theorem kf32_146 : ef32_146.ok [] = true := by kernel_rfl
theorem kf32_210 : ef32_210.ok [] = true := by kernel_rfl
theorem kf32_360 : ef32_360.ok [] = true := by kernel_rfl
theorem kf32_440 : ef32_440.ok [] = true := by kernel_rfl
theorem kf32_504 : ef32_504.ok [] = true := by kernel_rfl
theorem kf100_778 : ef100_778.ok [] = true := by kernel_rfl
theorem kf100_1050 : ef100_1050.ok [] = true := by kernel_rfl
theorem kf100_1154 : ef100_1154.ok [] = true := by kernel_rfl
theorem kf100_1366 : ef100_1366.ok [] = true := by kernel_rfl
theorem kf100_1470 : ef100_1470.ok [] = true := by kernel_rfl
end Go.Abs
