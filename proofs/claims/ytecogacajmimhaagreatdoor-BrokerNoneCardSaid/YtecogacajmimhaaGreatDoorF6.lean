/-
  grapevinelaw16.BrokerNone: WHAT THE ROW's CELLS SAY OF THE PROGRAM, one fact a theorem.
-/
import Derived.Test.YtecogacajmimhaaGreatDoorF2
namespace Go.Proofs.YtecogacajmimhaaGreatDoor.brokerNone
open Go.ChangeShapes Go.WideShapes Go.ChangeAt Go.RowKit

theorem jf13 : ((Rows.brokerNoneRow.maps == (Tryz.f4.params.toList ++ Rows.brokerNoneSpec.plain.varTypes Tryz.prog).any (Tryz.prog.mapsRec ·))) = true := by kernel_rfl
theorem jf14 : ((Rows.brokerNoneRow.ifaces == (Tryz.f4.params.toList ++ Rows.brokerNoneSpec.plain.varTypes Tryz.prog).any (Tryz.prog.ifacesRec ·))) = true := by kernel_rfl
theorem jf15 : ((Rows.brokerNoneRow.mapsOut == Tryz.prog.mapsAmong Tryz.f4.resultTypes.toList)) = true := by kernel_rfl
theorem jf16 : ((Rows.brokerNoneRow.loops == (Tryz.f4.params.toList ++ Rows.brokerNoneSpec.plain.varTypes Tryz.prog).any (Tryz.prog.loopsFrom ·))) = true := by kernel_rfl
theorem jf17 : ((Rows.brokerNoneRow.wideKeys == (Tryz.f4.params.toList ++ Rows.brokerNoneSpec.plain.varTypes Tryz.prog ++ Tryz.f4.resultTypes.toList).any (Tryz.prog.wideKeysFrom ·))) = true := by kernel_rfl
theorem jf18 : (Rows.brokerNoneSpec.vars.all (Tryz.prog.varReadable ·)) = true := by kernel_rfl
theorem jf19 : (Tryz.f4.resultTypes.all (fun t => Tryz.prog.readableRec t && decide (t < Tryz.prog.types.size))) = true := by kernel_rfl
theorem jf20 : ((Rows.brokerNoneRow.ifacesOut == Tryz.f4.resultTypes.toList.any (Tryz.prog.ifacesRec ·))) = true := by kernel_rfl
theorem jf21 : ((Rows.brokerNoneRow.loopsOut == Tryz.f4.resultTypes.toList.any (Tryz.prog.loopsFrom ·))) = true := by kernel_rfl
theorem jf22 : ((Rows.brokerNoneRow.plainKeys == Tryz.prog.plainKeys)) = true := by kernel_rfl
theorem jf23 : (Rows.brokerNoneRow.shortTexts.isNone) = true := by kernel_rfl
theorem jf24 : (Tryz.prog.stopsHeard) = true := by kernel_rfl
theorem jf25 : (Tryz.prog.mayEnter) = true := by kernel_rfl
theorem jf26 : ((Rows.brokerNoneRow.lifted == Tryz.prog.liftsFinal)) = true := by kernel_rfl
theorem jf27 : ((Tryz.prog.make == some Rows.brokerNoneRow.make)) = true := by kernel_rfl
theorem jf28 : ((Rows.brokerNoneRow.kinds == (if Rows.brokerNoneRow.domain.isEmpty then [] else Tryz.f4.params.toList.map fun t => match Tryz.prog.underlying t with | some (.int k) => some k | _ => none))) = true := by kernel_rfl
theorem jf29 : ((Rows.brokerNoneRow.pinned == Rows.brokerNoneRow.pinnedBy)) = true := by kernel_rfl
theorem jf30 : ((Rows.brokerNoneRow.veiled == (Tryz.f4.params.toList ++ Rows.brokerNoneSpec.plain.varTypes Tryz.prog ++ Tryz.f4.resultTypes.toList).any (Tryz.prog.veiledRec ·))) = true := by kernel_rfl
theorem jf31 : (Rows.brokerNoneRow.veiledFits Tryz.prog Tryz.f4.params.toList (Tryz.f4.params.toList ++ Rows.brokerNoneSpec.plain.varTypes Tryz.prog ++ Tryz.f4.resultTypes.toList)) = true := by kernel_rfl
end Go.Proofs.YtecogacajmimhaaGreatDoor.brokerNone
