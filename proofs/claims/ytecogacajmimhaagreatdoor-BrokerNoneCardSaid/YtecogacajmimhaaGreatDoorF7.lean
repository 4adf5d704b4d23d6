/-
  grapevinelaw16.BrokerNone: WHAT THE ROW's CELLS SAY OF THE PROGRAM, one fact a theorem.
-/
import Derived.Test.YtecogacajmimhaaGreatDoorF2
namespace Go.Proofs.YtecogacajmimhaaGreatDoor.brokerNone
open Go.ChangeShapes Go.WideShapes Go.ChangeAt Go.RowKit

theorem jf0 : (Rows.brokerNoneRow.wf (OpenSpec.ofChange Rows.brokerNoneSpec)) = true := by kernel_rfl
theorem jf1 : (laidOutB Tryz.prog) = true := by kernel_rfl
theorem jf2 : (mapsRowed Tryz.prog) = true := by kernel_rfl
theorem jf3 : (Tryz.f4.params.all (Tryz.prog.readableRec ·)) = true := by kernel_rfl
theorem jf4 : (namedTie Tryz.prog Rows.brokerNoneRow.named Rows.brokerNoneSpec.vars) = true := by kernel_rfl
theorem jf5 : ((Rows.brokerNoneRow.stops == [])) = true := by kernel_rfl
theorem jf6 : ((Tryz.prog.stops == [])) = true := by kernel_rfl
theorem jf7 : ((Rows.brokerNoneRow.knobs == [])) = true := by kernel_rfl
theorem jf8 : ((Tryz.prog.stopKnobs == [])) = true := by kernel_rfl
end Go.Proofs.YtecogacajmimhaaGreatDoor.brokerNone
