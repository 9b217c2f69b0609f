/-
  DERIVED. GIVEN WITH THE SEED: THE CARDS: each row of YthackiallbgeaaaGreatDoorRows.lean that lists a variable, with what it lists TIED to the program's text (the seventh form; the later family's looks); each row that meets fmt, with fmt's text TOLD by the authors' own Lean function (tested against real Go, not proved from fmt's source: count such statements apart). THE CARD IS WHAT COUNTS. Prove the row's statement (the work); the ties are given (YthackiallbgeaaaGreatDoorTie.lean); close each card by the builder's one call (the guide's Derived/Test/ToyasCard.lean, 'card_holds'). Laid BY PROGRAM, IN A SANDBOX (cutbox-door.mjs). By AI agents, Wed Nov 11 2026. No macro, syntax, notation, axiom, sorry.
-/
import Derived.Test.YthackiallbgeaaaGreatDoorRows
import GoSem.ClaimSeven
namespace Go.Proofs.YthackiallbgeaaaGreatDoor
namespace Rows

/-- THE TIED CARD OF 'cablewaylaw30.ClientRefuses'. -/
def clientRefusesCard : Claim7 := { stood := { row := clientRefusesRow, standIns := [], harness := (true, "cdf5d53c582025c7504f7f03b736aafced58839a2a0ffb8a9cb8f2e17e7ade8c"), looks := false }, kinds := [], alts := [], laidByText := true, laidKinds := [.wider, .wider, .wider, .wider, .wider, .wider, .wider, .wider, .data, .wider, .data, .wider, .wider], laidTests := true, laidLooks := .later }
def ClientRefusesCardSaid : Prop := Claim7.holds Tryz.pinned (.plain (OpenSpec.ofChange clientRefusesSpec)) clientRefusesCard

/-- THE TIED CARD OF 'cablewaylaw30.ClientCalls'. -/
def clientCallsCard : Claim7 := { stood := { row := clientCallsRow, standIns := [], harness := (true, "cdf5d53c582025c7504f7f03b736aafced58839a2a0ffb8a9cb8f2e17e7ade8c"), looks := false }, kinds := [], alts := [], laidByText := true, laidKinds := [.wider, .wider, .wider, .wider, .wider, .wider, .wider, .wider, .data, .wider, .data, .wider, .wider], laidTests := true, laidLooks := .later }
def ClientCallsCardSaid : Prop := Claim7.holds Tryz.pinned (.plain (OpenSpec.ofChange clientCallsSpec)) clientCallsCard

/-- THE TIED CARD OF 'cablewaylaw33.FabricNone'. -/
def fabricNoneCard : Claim7 := { stood := { row := fabricNoneRow, standIns := [], harness := (true, "cdf5d53c582025c7504f7f03b736aafced58839a2a0ffb8a9cb8f2e17e7ade8c"), looks := false }, kinds := [], alts := [], laidByText := true, laidKinds := [.wider, .wider, .wider, .wider, .wider, .wider, .wider, .wider, .data, .wider, .data, .wider, .wider], laidTests := true, laidLooks := .later }
def FabricNoneCardSaid : Prop := Claim7.holds Tryz.pinned (.plain (OpenSpec.ofChange fabricNoneSpec)) fabricNoneCard

/-- THE SECOND FORM's CARD OF 'cablewaylaw30.ClientRefuses'. -/
def clientRefusesUptoCard : Claim7 := { stood := { row := clientRefusesUptoRow, standIns := [], harness := (true, "cdf5d53c582025c7504f7f03b736aafced58839a2a0ffb8a9cb8f2e17e7ade8c"), looks := false }, kinds := [], alts := [], laidByText := true, laidKinds := [.wider, .wider, .wider, .wider, .wider, .wider, .wider, .wider, .data, .wider, .data, .wider, .wider], laidTests := true, laidLooks := .later }
def ClientRefusesUptoCardSaid : Prop := Claim7.holds Tryz.pinned (.plain (OpenSpec.upto clientRefusesSpec)) clientRefusesUptoCard

/-- THE SECOND FORM's CARD OF 'cablewaylaw30.ClientCalls'. -/
def clientCallsUptoCard : Claim7 := { stood := { row := clientCallsUptoRow, standIns := [], harness := (true, "cdf5d53c582025c7504f7f03b736aafced58839a2a0ffb8a9cb8f2e17e7ade8c"), looks := false }, kinds := [], alts := [], laidByText := true, laidKinds := [.wider, .wider, .wider, .wider, .wider, .wider, .wider, .wider, .data, .wider, .data, .wider, .wider], laidTests := true, laidLooks := .later }
def ClientCallsUptoCardSaid : Prop := Claim7.holds Tryz.pinned (.plain (OpenSpec.upto clientCallsSpec)) clientCallsUptoCard

/-- THE SECOND FORM's CARD OF 'cablewaylaw33.FabricNone'. -/
def fabricNoneUptoCard : Claim7 := { stood := { row := fabricNoneUptoRow, standIns := [], harness := (true, "cdf5d53c582025c7504f7f03b736aafced58839a2a0ffb8a9cb8f2e17e7ade8c"), looks := false }, kinds := [], alts := [], laidByText := true, laidKinds := [.wider, .wider, .wider, .wider, .wider, .wider, .wider, .wider, .data, .wider, .data, .wider, .wider], laidTests := true, laidLooks := .later }
def FabricNoneUptoCardSaid : Prop := Claim7.holds Tryz.pinned (.plain (OpenSpec.upto fabricNoneSpec)) fabricNoneUptoCard
end Rows
end Go.Proofs.YthackiallbgeaaaGreatDoor
