/-
  DERIVED. GIVEN WITH THE SEED: THE CARDS: each row of YtbbencnhecokiaaDoorRows.lean that lists a variable, with what it lists TIED to the program's text (the seventh form; the later family's looks); each row that meets fmt, with fmt's text TOLD by the authors' own Lean function (tested against real Go, not proved from fmt's source: count such statements apart). THE CARD IS WHAT COUNTS. Prove the row's statement (the work); the ties are given (YtbbencnhecokiaaDoorTie.lean); close each card by the builder's one call (the guide's Derived/Test/ToyasCard.lean, 'card_holds'). Laid BY PROGRAM, IN A SANDBOX (cutbox-door.mjs). By AI agents, Wed Nov 11 2026. No macro, syntax, notation, axiom, sorry.
-/
import Derived.Test.YtbbencnhecokiaaDoorRows
import GoSem.ClaimSeven
namespace Go.Proofs.YtbbencnhecokiaaDoor
namespace Rows

/-- THE TIED CARD OF 'cablewaylaw31.ClockTells'. -/
def clockTellsCard : Claim7 := { stood := { row := clockTellsRow, standIns := [], harness := (true, "ca46b9741ed1a31d56d38c0facefe1d0dc41a57fcd91ba2f605baa9f1d0278b7"), looks := false }, kinds := [], alts := [], laidByText := true, laidKinds := [.wider, .wider, .wider, .wider, .wider, .wider, .wider, .wider, .data, .wider, .data], laidTests := true, laidLooks := .later }
def ClockTellsCardSaid : Prop := Claim7.holds Tryd.pinned (.plain (OpenSpec.ofChange clockTellsSpec)) clockTellsCard

/-- THE TIED CARD OF 'cablewaylaw31.ClockDeaf'. -/
def clockDeafCard : Claim7 := { stood := { row := clockDeafRow, standIns := [], harness := (true, "ca46b9741ed1a31d56d38c0facefe1d0dc41a57fcd91ba2f605baa9f1d0278b7"), looks := false }, kinds := [], alts := [], laidByText := true, laidKinds := [.wider, .wider, .wider, .wider, .wider, .wider, .wider, .wider, .data, .wider, .data], laidTests := true, laidLooks := .later }
def ClockDeafCardSaid : Prop := Claim7.holds Tryd.pinned (.plain (OpenSpec.ofChange clockDeafSpec)) clockDeafCard

/-- THE TIED CARD OF 'cablewaylaw31.ClockNone'. -/
def clockNoneCard : Claim7 := { stood := { row := clockNoneRow, standIns := [], harness := (true, "ca46b9741ed1a31d56d38c0facefe1d0dc41a57fcd91ba2f605baa9f1d0278b7"), looks := false }, kinds := [], alts := [], laidByText := true, laidKinds := [.wider, .wider, .wider, .wider, .wider, .wider, .wider, .wider, .data, .wider, .data], laidTests := true, laidLooks := .later }
def ClockNoneCardSaid : Prop := Claim7.holds Tryd.pinned (.plain (OpenSpec.ofChange clockNoneSpec)) clockNoneCard

/-- THE TIED CARD OF 'cablewaylaw31.ClockOnce'. -/
def clockOnceCard : Claim7 := { stood := { row := clockOnceRow, standIns := [], harness := (true, "ca46b9741ed1a31d56d38c0facefe1d0dc41a57fcd91ba2f605baa9f1d0278b7"), looks := false }, kinds := [], alts := [], laidByText := true, laidKinds := [.wider, .wider, .wider, .wider, .wider, .wider, .wider, .wider, .data, .wider, .data], laidTests := true, laidLooks := .later }
def ClockOnceCardSaid : Prop := Claim7.holds Tryd.pinned (.plain (OpenSpec.ofChange clockOnceSpec)) clockOnceCard

/-- THE SECOND FORM's CARD OF 'cablewaylaw31.ClockTells'. -/
def clockTellsUptoCard : Claim7 := { stood := { row := clockTellsUptoRow, standIns := [], harness := (true, "ca46b9741ed1a31d56d38c0facefe1d0dc41a57fcd91ba2f605baa9f1d0278b7"), looks := false }, kinds := [], alts := [], laidByText := true, laidKinds := [.wider, .wider, .wider, .wider, .wider, .wider, .wider, .wider, .data, .wider, .data], laidTests := true, laidLooks := .later }
def ClockTellsUptoCardSaid : Prop := Claim7.holds Tryd.pinned (.plain (OpenSpec.upto clockTellsSpec)) clockTellsUptoCard

/-- THE SECOND FORM's CARD OF 'cablewaylaw31.ClockDeaf'. -/
def clockDeafUptoCard : Claim7 := { stood := { row := clockDeafUptoRow, standIns := [], harness := (true, "ca46b9741ed1a31d56d38c0facefe1d0dc41a57fcd91ba2f605baa9f1d0278b7"), looks := false }, kinds := [], alts := [], laidByText := true, laidKinds := [.wider, .wider, .wider, .wider, .wider, .wider, .wider, .wider, .data, .wider, .data], laidTests := true, laidLooks := .later }
def ClockDeafUptoCardSaid : Prop := Claim7.holds Tryd.pinned (.plain (OpenSpec.upto clockDeafSpec)) clockDeafUptoCard

/-- THE SECOND FORM's CARD OF 'cablewaylaw31.ClockNone'. -/
def clockNoneUptoCard : Claim7 := { stood := { row := clockNoneUptoRow, standIns := [], harness := (true, "ca46b9741ed1a31d56d38c0facefe1d0dc41a57fcd91ba2f605baa9f1d0278b7"), looks := false }, kinds := [], alts := [], laidByText := true, laidKinds := [.wider, .wider, .wider, .wider, .wider, .wider, .wider, .wider, .data, .wider, .data], laidTests := true, laidLooks := .later }
def ClockNoneUptoCardSaid : Prop := Claim7.holds Tryd.pinned (.plain (OpenSpec.upto clockNoneSpec)) clockNoneUptoCard

/-- THE SECOND FORM's CARD OF 'cablewaylaw31.ClockOnce'. -/
def clockOnceUptoCard : Claim7 := { stood := { row := clockOnceUptoRow, standIns := [], harness := (true, "ca46b9741ed1a31d56d38c0facefe1d0dc41a57fcd91ba2f605baa9f1d0278b7"), looks := false }, kinds := [], alts := [], laidByText := true, laidKinds := [.wider, .wider, .wider, .wider, .wider, .wider, .wider, .wider, .data, .wider, .data], laidTests := true, laidLooks := .later }
def ClockOnceUptoCardSaid : Prop := Claim7.holds Tryd.pinned (.plain (OpenSpec.upto clockOnceSpec)) clockOnceUptoCard
end Rows
end Go.Proofs.YtbbencnhecokiaaDoor
