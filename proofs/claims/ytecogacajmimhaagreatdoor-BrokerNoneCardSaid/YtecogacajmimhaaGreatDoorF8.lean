/-
  grapevinelaw16.BrokerNone: WHAT THE ROW's CELLS SAY OF THE PROGRAM, together.
-/
import Derived.Test.YtecogacajmimhaaGreatDoorF4
import Derived.Test.YtecogacajmimhaaGreatDoorF5
import Derived.Test.YtecogacajmimhaaGreatDoorF6
import Derived.Test.YtecogacajmimhaaGreatDoorF7
namespace Go.Proofs.YtecogacajmimhaaGreatDoor.brokerNone
open Go.ChangeShapes Go.WideShapes Go.ChangeAt Go.RowKit

theorem bmk {a b : Bool} (ha : a = true) (hb : b = true) : (a && b) = true := by rw [ha, hb]; rfl
set_option maxRecDepth 100000 in
theorem facts : joinedFacts Tryz.prog 4 Tryz.f4 Rows.brokerNoneSpec Rows.brokerNoneRow = true := by
  unfold joinedFacts
  exact bmk (bmk (bmk (bmk (bmk (bmk (bmk (bmk (bmk (bmk (bmk (bmk (bmk (bmk (bmk (bmk (bmk (bmk (bmk (bmk (bmk (bmk (bmk (bmk (bmk (bmk (bmk (bmk (bmk (bmk (bmk jf0 jf1) jf2) jf3) jf4) jf5) jf6) jf7) jf8) jf9) jf10) jf11) jf12) jf13) jf14) jf15) jf16) jf17) jf18) jf19) jf20) jf21) jf22) jf23) jf24) jf25) jf26) jf27) jf28) jf29) jf30) jf31
end Go.Proofs.YtecogacajmimhaaGreatDoor.brokerNone
