/-
  DERIVED. GIVEN WITH THE SEED: THE CARDS: each row of YtecogacajmimhaaGreatDoorRows.lean that lists a variable, with what it lists TIED to the program's text (the seventh form; the later family's looks); each row that meets fmt, with fmt's text TOLD by the authors' own Lean function (tested against real Go, not proved from fmt's source: count such statements apart). THE CARD IS WHAT COUNTS. Prove the row's statement (the work); the ties are given (YtecogacajmimhaaGreatDoorTie.lean); close each card by the builder's one call (the guide's Derived/Test/ToyasCard.lean, 'card_holds'). Laid BY PROGRAM, IN A SANDBOX (cutbox-door.mjs). By AI agents, Wed Nov 11 2026. No macro, syntax, notation, axiom, sorry.
-/
import Derived.Test.YtecogacajmimhaaGreatDoorRows
import GoSem.ClaimSeven
namespace Go.Proofs.YtecogacajmimhaaGreatDoor
namespace Rows

/-- THE TIED CARD OF 'grapevinelaw16.BrokerGone'. -/
def brokerGoneCard : Claim7 := { stood := { row := brokerGoneRow, standIns := [], harness := (true, "35a59ea1627d3470c514cce7f5a2e0a4842675528d231d8c8bf4b24bcbe1d106"), looks := true }, kinds := [], alts := [], laidByText := true, laidKinds := [.data], laidTests := true, laidLooks := .later }
def BrokerGoneCardSaid : Prop := Claim7.holds Tryz.pinned (.plain (OpenSpec.ofChange brokerGoneSpec)) brokerGoneCard

/-- THE TIED CARD OF 'grapevinelaw16.BrokerNone'. -/
def brokerNoneCard : Claim7 := { stood := { row := brokerNoneRow, standIns := [], harness := (true, "35a59ea1627d3470c514cce7f5a2e0a4842675528d231d8c8bf4b24bcbe1d106"), looks := true }, kinds := [], alts := [], laidByText := true, laidKinds := [.data], laidTests := true, laidLooks := .later }
def BrokerNoneCardSaid : Prop := Claim7.holds Tryz.pinned (.plain (OpenSpec.ofChange brokerNoneSpec)) brokerNoneCard

/-- THE SECOND FORM's CARD OF 'grapevinelaw16.BrokerGone'. -/
def brokerGoneUptoCard : Claim7 := { stood := { row := brokerGoneUptoRow, standIns := [], harness := (true, "35a59ea1627d3470c514cce7f5a2e0a4842675528d231d8c8bf4b24bcbe1d106"), looks := true }, kinds := [], alts := [], laidByText := true, laidKinds := [.data], laidTests := true, laidLooks := .later }
def BrokerGoneUptoCardSaid : Prop := Claim7.holds Tryz.pinned (.plain (OpenSpec.upto brokerGoneSpec)) brokerGoneUptoCard

/-- THE SECOND FORM's CARD OF 'grapevinelaw16.BrokerNone'. -/
def brokerNoneUptoCard : Claim7 := { stood := { row := brokerNoneUptoRow, standIns := [], harness := (true, "35a59ea1627d3470c514cce7f5a2e0a4842675528d231d8c8bf4b24bcbe1d106"), looks := true }, kinds := [], alts := [], laidByText := true, laidKinds := [.data], laidTests := true, laidLooks := .later }
def BrokerNoneUptoCardSaid : Prop := Claim7.holds Tryz.pinned (.plain (OpenSpec.upto brokerNoneSpec)) brokerNoneUptoCard
end Rows
end Go.Proofs.YtecogacajmimhaaGreatDoor
