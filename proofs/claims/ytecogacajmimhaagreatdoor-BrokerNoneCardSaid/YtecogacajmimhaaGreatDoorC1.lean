/-
  THE KNOWN CALLS: that they are so (C1).
-/
import Derived.Test.YtecogacajmimhaaGreatDoorC0
import Derived.KernelRfl
namespace Go.Abs
set_option maxRecDepth 100000
theorem kf220_1918 : ef220_1918.ok [] = true := by kernel_rfl
theorem kf220_1933 : ef220_1933.ok [] = true := by kernel_rfl
theorem kf220_1948 : ef220_1948.ok [] = true := by kernel_rfl
theorem kf220_1963 : ef220_1963.ok [] = true := by kernel_rfl
theorem kf220_1978 : ef220_1978.ok [] = true := by kernel_rfl
theorem kf220_1993 : ef220_1993.ok [] = true := by kernel_rfl
theorem kf220_2008 : ef220_2008.ok [] = true := by kernel_rfl
theorem kf220_2023 : ef220_2023.ok [] = true := by kernel_rfl
theorem kf220_2038 : ef220_2038.ok [] = true := by kernel_rfl
theorem kf220_2053 : ef220_2053.ok [] = true := by kernel_rfl
theorem kf220_2068 : ef220_2068.ok [] = true := by kernel_rfl
theorem kf220_2083 : ef220_2083.ok [] = true := by kernel_rfl
theorem kf220_2098 : ef220_2098.ok [] = true := by kernel_rfl
theorem kf220_2113 : ef220_2113.ok [] = true := by kernel_rfl
theorem kf220_2128 : ef220_2128.ok [] = true := by kernel_rfl
theorem kf220_2143 : ef220_2143.ok [] = true := by kernel_rfl
end Go.Abs
