/-
  PROVES Rows.BrokerNoneCardSaid: for every input grapevinelaw16.BrokerNone returns true and its arguments read as they did. No condition beyond the given row's own cells.
-/
import Derived.Test.YtecogacajmimhaaGreatDoorF3
import Derived.Test.YtecogacajmimhaaGreatDoorF8
namespace Go.Proofs.YtecogacajmimhaaGreatDoor.brokerNone
open Go.ChangeShapes Go.WideShapes Go.ChangeAt Go.RowKit

set_option maxRecDepth 100000 in
theorem said : Rows.BrokerNoneSaid :=
  OpenClaim.holds_of_cond 4 Tryz.f4 rfl rfl rfl rfl rfl rfl rfl ⟨rfl, rfl, rfl, rfl, rfl⟩ rfl rfl rfl rfl rfl funcName Tryz.func4 facts
    (of_decide_eq_true inst) wrap
    (fun os started H enc _ F => by rw [OpenClaim.pre_eq_preRow]; exact lifted os started H enc F)

/-- No parameter wants a stand-in; the program's own looks are on: what the card asks. -/
theorem plain (f : FuncId) (fn : Func) (hf : Tryz.pinned.checked.prog.funcNamed "grapevine/grapevinelaw16.BrokerNone" = some f) (hfn : Tryz.pinned.checked.prog.funcs[f]? = some fn) :
    true = Tryz.pinned.checked.prog.looks [] ∧ ∀ (j : Nat) t, fn.params[j]? = some t → Tryz.pinned.checked.prog.wantsStandIn t = false := by
  obtain rfl : f = 4 := Option.some.inj ((show Tryz.prog.funcNamed "grapevine/grapevinelaw16.BrokerNone" = some 4 by kernel_rfl).symm.trans hf) |>.symm
  obtain rfl : fn = Tryz.f4 := (Option.some.inj (Tryz.func4.symm.trans hfn)).symm
  refine ⟨by kernel_rfl, fun j t ht => ?_⟩
  rw [Tryz.params4] at ht
  have hm : t = 3 ∨ t = 3 ∨ t = 22 := by simpa using Array.mem_of_getElem? ht
  have h3 : Tryz.prog.wantsStandIn 3 = false := by kernel_rfl
  have h22 : Tryz.prog.wantsStandIn 22 = false := by kernel_rfl
  rcases hm with rfl | rfl | rfl
  · exact h3
  · exact h3
  · exact h22

/-- THE CARD. -/
theorem card : Rows.BrokerNoneCardSaid :=
  Claim7.holds_tied_plain_at .later [] _ _ _ _ said (fun _ h => by cases h) (by kernel_rfl) (fun _ h => by cases h) brokerNone_row_tie rfl ⟨rfl, rfl⟩ (by kernel_rfl) rfl plain (by kernel_rfl)
end Go.Proofs.YtecogacajmimhaaGreatDoor.brokerNone
namespace Go.Proofs.YtecogacajmimhaaGreatDoor
theorem brokerNone_holds : Rows.BrokerNoneCardSaid := brokerNone.card
end Go.Proofs.YtecogacajmimhaaGreatDoor
