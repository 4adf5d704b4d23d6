/-
  THE LAW's OWN CALL: it ends in true.
-/
import Derived.Test.YtecogacajmimhaaGreatDoorC0
import Derived.KernelRfl
namespace Go.Abs
set_option maxRecDepth 100000
def opq (k : Nat) : Value := .pointer (some ⟨0, k, some 0⟩)
def isTrue : Option (Value × Hp) → Bool
  | some (.bool true, _) => true
  | _ => false
theorem law_true : isTrue (kc [ef62_8, ef8_1804] 4 [opq 0, opq 1, opq 2] (.mk 0 .nil)) = true := by kernel_rfl
end Go.Abs
