/-
  THE KNOWN CALLS: that they are so (C4).
-/
import Derived.Test.YtecogacajmimhaaGreatDoorC0
import Derived.KernelRfl
namespace Go.Abs
set_option maxRecDepth 100000
theorem kf145_1903 : ef145_1903.ok [ef220_1918, ef220_1933, ef220_1948, ef220_1963, ef220_1978, ef220_1993, ef220_2008, ef220_2023, ef220_2038, ef220_2053, ef220_2068, ef220_2083, ef220_2098, ef220_2113, ef220_2128, ef220_2143] = true := by kernel_rfl
theorem kf40_1880 : ef40_1880.ok [ef145_1903] = true := by kernel_rfl
theorem kf62_8 : ef62_8.ok [ef6_11, ef16_705, ef21_881] = true := by kernel_rfl
theorem kf42_2283 : ef42_2283.ok [ef35_2283, ef54_3889] = true := by kernel_rfl
theorem kf8_1804 : ef8_1804.ok [ef40_1880, ef42_2283] = true := by kernel_rfl
end Go.Abs
