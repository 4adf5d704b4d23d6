/-
  grapevinelaw16.BrokerNone: WHAT THE ROW's CELLS SAY OF THE PROGRAM, one fact a theorem.
-/
import Derived.Test.YtecogacajmimhaaGreatDoorF2
namespace Go.Proofs.YtecogacajmimhaaGreatDoor.brokerNone
open Go.ChangeShapes Go.WideShapes Go.ChangeAt Go.RowKit

theorem jf9 : ((Rows.brokerNoneRow.inPlace == Tryz.prog.inPlace 4)) = true := by kernel_rfl
theorem jf10 : ((Rows.brokerNoneRow.unfollowed == Tryz.prog.unfollowed 4)) = true := by kernel_rfl
end Go.Proofs.YtecogacajmimhaaGreatDoor.brokerNone
