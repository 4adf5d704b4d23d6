/-
  grapevinelaw16.BrokerNone: WHAT THE ROW's CELLS SAY OF THE PROGRAM, one fact a theorem.
-/
import Derived.Test.YtecogacajmimhaaGreatDoorF2
namespace Go.Proofs.YtecogacajmimhaaGreatDoor.brokerNone
open Go.ChangeShapes Go.WideShapes Go.ChangeAt Go.RowKit

theorem jf11 : ((Rows.brokerNoneRow.recurses == Tryz.prog.recurses 4)) = true := by kernel_rfl
theorem jf12 : ((Rows.brokerNoneRow.named == Tryz.prog.varsNamed 4)) = true := by kernel_rfl
end Go.Proofs.YtecogacajmimhaaGreatDoor.brokerNone
