/-
  DERIVED. GIVEN WITH THE SEED: THE CARDS: each row of YtbbencnhecokiaaGreatDoorRows.lean that lists a variable, with what it lists TIED to the program's text (the seventh form; the later family's looks); each row that meets fmt, with fmt's text TOLD by the authors' own Lean function (tested against real Go, not proved from fmt's source: count such statements apart). THE CARD IS WHAT COUNTS. Prove the row's statement (the work); the ties are given (YtbbencnhecokiaaGreatDoorTie.lean); close each card by the builder's one call (the guide's Derived/Test/ToyasCard.lean, 'card_holds'). Laid BY PROGRAM, IN A SANDBOX (cutbox-door.mjs). By AI agents, Wed Nov 11 2026. No macro, syntax, notation, axiom, sorry.
-/
import Derived.Test.YtbbencnhecokiaaGreatDoorRows
import GoSem.ClaimSeven
namespace Go.Proofs.YtbbencnhecokiaaGreatDoor
namespace Rows

/-- THE TIED CARD OF 'cablewaylaw32.PostBrings'. -/
def postBringsCard : Claim7 := { stood := { row := postBringsRow, standIns := [], harness := (true, "b9843be366872a104d7e56a5d5e922be3026bd582af87798949e6fdb19eeac01"), looks := false }, kinds := [], alts := [], laidByText := true, laidKinds := [.wider, .wider, .wider, .wider, .wider, .wider, .wider, .wider, .data, .wider, .data], laidTests := true, laidLooks := .later }
def PostBringsCardSaid : Prop := Claim7.holds Tryz.pinned (.plain (OpenSpec.ofChange postBringsSpec)) postBringsCard

/-- THE TIED CARD OF 'cablewaylaw32.PostNone'. -/
def postNoneCard : Claim7 := { stood := { row := postNoneRow, standIns := [], harness := (true, "b9843be366872a104d7e56a5d5e922be3026bd582af87798949e6fdb19eeac01"), looks := false }, kinds := [], alts := [], laidByText := true, laidKinds := [.wider, .wider, .wider, .wider, .wider, .wider, .wider, .wider, .data, .wider, .data], laidTests := true, laidLooks := .later }
def PostNoneCardSaid : Prop := Claim7.holds Tryz.pinned (.plain (OpenSpec.ofChange postNoneSpec)) postNoneCard

/-- THE TIED CARD OF 'cablewaylaw32.PostTwice'. -/
def postTwiceCard : Claim7 := { stood := { row := postTwiceRow, standIns := [], harness := (true, "b9843be366872a104d7e56a5d5e922be3026bd582af87798949e6fdb19eeac01"), looks := false }, kinds := [], alts := [], laidByText := true, laidKinds := [.wider, .wider, .wider, .wider, .wider, .wider, .wider, .wider, .data, .wider, .data], laidTests := true, laidLooks := .later }
def PostTwiceCardSaid : Prop := Claim7.holds Tryz.pinned (.plain (OpenSpec.ofChange postTwiceSpec)) postTwiceCard

/-- THE TIED CARD OF 'cablewaylaw30.ClientOnce'. -/
def clientOnceCard : Claim7 := { stood := { row := clientOnceRow, standIns := [], harness := (true, "b9843be366872a104d7e56a5d5e922be3026bd582af87798949e6fdb19eeac01"), looks := false }, kinds := [], alts := [], laidByText := true, laidKinds := [.wider, .wider, .wider, .wider, .wider, .wider, .wider, .wider, .data, .wider, .data, .wider, .wider], laidTests := true, laidLooks := .later }
def ClientOnceCardSaid : Prop := Claim7.holds Tryz.pinned (.plain (OpenSpec.ofChange clientOnceSpec)) clientOnceCard

/-- THE TIED CARD OF 'cablewaylaw30.ClientRefuses'. -/
def clientRefusesCard : Claim7 := { stood := { row := clientRefusesRow, standIns := [], harness := (true, "b9843be366872a104d7e56a5d5e922be3026bd582af87798949e6fdb19eeac01"), looks := false }, kinds := [], alts := [], laidByText := true, laidKinds := [.wider, .wider, .wider, .wider, .wider, .wider, .wider, .wider, .data, .wider, .data, .wider, .wider], laidTests := true, laidLooks := .later }
def ClientRefusesCardSaid : Prop := Claim7.holds Tryz.pinned (.plain (OpenSpec.ofChange clientRefusesSpec)) clientRefusesCard

/-- THE TIED CARD OF 'cablewaylaw30.ClientCalls'. -/
def clientCallsCard : Claim7 := { stood := { row := clientCallsRow, standIns := [], harness := (true, "b9843be366872a104d7e56a5d5e922be3026bd582af87798949e6fdb19eeac01"), looks := false }, kinds := [], alts := [], laidByText := true, laidKinds := [.wider, .wider, .wider, .wider, .wider, .wider, .wider, .wider, .data, .wider, .data, .wider, .wider], laidTests := true, laidLooks := .later }
def ClientCallsCardSaid : Prop := Claim7.holds Tryz.pinned (.plain (OpenSpec.ofChange clientCallsSpec)) clientCallsCard

/-- THE TIED CARD OF 'cablewaylaw30.ClientNone'. -/
def clientNoneCard : Claim7 := { stood := { row := clientNoneRow, standIns := [], harness := (true, "b9843be366872a104d7e56a5d5e922be3026bd582af87798949e6fdb19eeac01"), looks := false }, kinds := [], alts := [], laidByText := true, laidKinds := [.wider, .wider, .wider, .wider, .wider, .wider, .wider, .wider, .data, .wider, .data, .wider, .wider], laidTests := true, laidLooks := .later }
def ClientNoneCardSaid : Prop := Claim7.holds Tryz.pinned (.plain (OpenSpec.ofChange clientNoneSpec)) clientNoneCard

/-- THE SECOND FORM's CARD OF 'cablewaylaw32.PostBrings'. -/
def postBringsUptoCard : Claim7 := { stood := { row := postBringsUptoRow, standIns := [], harness := (true, "b9843be366872a104d7e56a5d5e922be3026bd582af87798949e6fdb19eeac01"), looks := false }, kinds := [], alts := [], laidByText := true, laidKinds := [.wider, .wider, .wider, .wider, .wider, .wider, .wider, .wider, .data, .wider, .data], laidTests := true, laidLooks := .later }
def PostBringsUptoCardSaid : Prop := Claim7.holds Tryz.pinned (.plain (OpenSpec.upto postBringsSpec)) postBringsUptoCard

/-- THE SECOND FORM's CARD OF 'cablewaylaw32.PostNone'. -/
def postNoneUptoCard : Claim7 := { stood := { row := postNoneUptoRow, standIns := [], harness := (true, "b9843be366872a104d7e56a5d5e922be3026bd582af87798949e6fdb19eeac01"), looks := false }, kinds := [], alts := [], laidByText := true, laidKinds := [.wider, .wider, .wider, .wider, .wider, .wider, .wider, .wider, .data, .wider, .data], laidTests := true, laidLooks := .later }
def PostNoneUptoCardSaid : Prop := Claim7.holds Tryz.pinned (.plain (OpenSpec.upto postNoneSpec)) postNoneUptoCard

/-- THE SECOND FORM's CARD OF 'cablewaylaw32.PostTwice'. -/
def postTwiceUptoCard : Claim7 := { stood := { row := postTwiceUptoRow, standIns := [], harness := (true, "b9843be366872a104d7e56a5d5e922be3026bd582af87798949e6fdb19eeac01"), looks := false }, kinds := [], alts := [], laidByText := true, laidKinds := [.wider, .wider, .wider, .wider, .wider, .wider, .wider, .wider, .data, .wider, .data], laidTests := true, laidLooks := .later }
def PostTwiceUptoCardSaid : Prop := Claim7.holds Tryz.pinned (.plain (OpenSpec.upto postTwiceSpec)) postTwiceUptoCard

/-- THE SECOND FORM's CARD OF 'cablewaylaw30.ClientOnce'. -/
def clientOnceUptoCard : Claim7 := { stood := { row := clientOnceUptoRow, standIns := [], harness := (true, "b9843be366872a104d7e56a5d5e922be3026bd582af87798949e6fdb19eeac01"), looks := false }, kinds := [], alts := [], laidByText := true, laidKinds := [.wider, .wider, .wider, .wider, .wider, .wider, .wider, .wider, .data, .wider, .data, .wider, .wider], laidTests := true, laidLooks := .later }
def ClientOnceUptoCardSaid : Prop := Claim7.holds Tryz.pinned (.plain (OpenSpec.upto clientOnceSpec)) clientOnceUptoCard

/-- THE SECOND FORM's CARD OF 'cablewaylaw30.ClientRefuses'. -/
def clientRefusesUptoCard : Claim7 := { stood := { row := clientRefusesUptoRow, standIns := [], harness := (true, "b9843be366872a104d7e56a5d5e922be3026bd582af87798949e6fdb19eeac01"), looks := false }, kinds := [], alts := [], laidByText := true, laidKinds := [.wider, .wider, .wider, .wider, .wider, .wider, .wider, .wider, .data, .wider, .data, .wider, .wider], laidTests := true, laidLooks := .later }
def ClientRefusesUptoCardSaid : Prop := Claim7.holds Tryz.pinned (.plain (OpenSpec.upto clientRefusesSpec)) clientRefusesUptoCard

/-- THE SECOND FORM's CARD OF 'cablewaylaw30.ClientCalls'. -/
def clientCallsUptoCard : Claim7 := { stood := { row := clientCallsUptoRow, standIns := [], harness := (true, "b9843be366872a104d7e56a5d5e922be3026bd582af87798949e6fdb19eeac01"), looks := false }, kinds := [], alts := [], laidByText := true, laidKinds := [.wider, .wider, .wider, .wider, .wider, .wider, .wider, .wider, .data, .wider, .data, .wider, .wider], laidTests := true, laidLooks := .later }
def ClientCallsUptoCardSaid : Prop := Claim7.holds Tryz.pinned (.plain (OpenSpec.upto clientCallsSpec)) clientCallsUptoCard

/-- THE SECOND FORM's CARD OF 'cablewaylaw30.ClientNone'. -/
def clientNoneUptoCard : Claim7 := { stood := { row := clientNoneUptoRow, standIns := [], harness := (true, "b9843be366872a104d7e56a5d5e922be3026bd582af87798949e6fdb19eeac01"), looks := false }, kinds := [], alts := [], laidByText := true, laidKinds := [.wider, .wider, .wider, .wider, .wider, .wider, .wider, .wider, .data, .wider, .data, .wider, .wider], laidTests := true, laidLooks := .later }
def ClientNoneUptoCardSaid : Prop := Claim7.holds Tryz.pinned (.plain (OpenSpec.upto clientNoneSpec)) clientNoneUptoCard
end Rows
end Go.Proofs.YtbbencnhecokiaaGreatDoor
