/-
  DERIVED. GIVEN WITH THE SEED: THE CARDS: each row of YtnhdpfbfgojkpaaGreatDoorRows.lean that lists a variable, with what it lists TIED to the program's text (the seventh form; the later family's looks); each row that meets fmt, with fmt's text TOLD by the authors' own Lean function (tested against real Go, not proved from fmt's source: count such statements apart). THE CARD IS WHAT COUNTS. Prove the row's statement (the work); the ties are given (YtnhdpfbfgojkpaaGreatDoorTie.lean); close each card by the builder's one call (the guide's Derived/Test/ToyasCard.lean, 'card_holds'). Laid BY PROGRAM, IN A SANDBOX (cutbox-door.mjs). By AI agents, Wed Nov 11 2026. No macro, syntax, notation, axiom, sorry.
-/
import Derived.Test.YtnhdpfbfgojkpaaGreatDoorRows
import GoSem.ClaimSeven
namespace Go.Proofs.YtnhdpfbfgojkpaaGreatDoor
namespace Rows

/-- THE TIED CARD OF 'cablewaylaw32.PostBrings'. -/
def postBringsCard : Claim7 := { stood := { row := postBringsRow, standIns := [], harness := (true, "dc327f9d280b8307421190539333f331df3b57ce8cb0ab9479e187b15e4b346b"), looks := false }, kinds := [], alts := [], laidByText := true, laidKinds := [.wider, .wider, .wider, .wider, .wider, .wider, .wider, .wider, .data, .wider, .data], laidTests := true, laidLooks := .later }
def PostBringsCardSaid : Prop := Claim7.holds Tryz.pinned (.plain (OpenSpec.ofChange postBringsSpec)) postBringsCard

/-- THE TIED CARD OF 'cablewaylaw32.PostTwice'. -/
def postTwiceCard : Claim7 := { stood := { row := postTwiceRow, standIns := [], harness := (true, "dc327f9d280b8307421190539333f331df3b57ce8cb0ab9479e187b15e4b346b"), looks := false }, kinds := [], alts := [], laidByText := true, laidKinds := [.wider, .wider, .wider, .wider, .wider, .wider, .wider, .wider, .data, .wider, .data], laidTests := true, laidLooks := .later }
def PostTwiceCardSaid : Prop := Claim7.holds Tryz.pinned (.plain (OpenSpec.ofChange postTwiceSpec)) postTwiceCard

/-- THE TIED CARD OF 'cablewaylaw30.ClientOnce'. -/
def clientOnceCard : Claim7 := { stood := { row := clientOnceRow, standIns := [], harness := (true, "dc327f9d280b8307421190539333f331df3b57ce8cb0ab9479e187b15e4b346b"), looks := false }, kinds := [], alts := [], laidByText := true, laidKinds := [.wider, .wider, .wider, .wider, .wider, .wider, .wider, .wider, .data, .wider, .data, .wider, .wider], laidTests := true, laidLooks := .later }
def ClientOnceCardSaid : Prop := Claim7.holds Tryz.pinned (.plain (OpenSpec.ofChange clientOnceSpec)) clientOnceCard

/-- THE TIED CARD OF 'cablewaylaw30.ClientRefuses'. -/
def clientRefusesCard : Claim7 := { stood := { row := clientRefusesRow, standIns := [], harness := (true, "dc327f9d280b8307421190539333f331df3b57ce8cb0ab9479e187b15e4b346b"), looks := false }, kinds := [], alts := [], laidByText := true, laidKinds := [.wider, .wider, .wider, .wider, .wider, .wider, .wider, .wider, .data, .wider, .data, .wider, .wider], laidTests := true, laidLooks := .later }
def ClientRefusesCardSaid : Prop := Claim7.holds Tryz.pinned (.plain (OpenSpec.ofChange clientRefusesSpec)) clientRefusesCard

/-- THE TIED CARD OF 'cablewaylaw30.ClientCalls'. -/
def clientCallsCard : Claim7 := { stood := { row := clientCallsRow, standIns := [], harness := (true, "dc327f9d280b8307421190539333f331df3b57ce8cb0ab9479e187b15e4b346b"), looks := false }, kinds := [], alts := [], laidByText := true, laidKinds := [.wider, .wider, .wider, .wider, .wider, .wider, .wider, .wider, .data, .wider, .data, .wider, .wider], laidTests := true, laidLooks := .later }
def ClientCallsCardSaid : Prop := Claim7.holds Tryz.pinned (.plain (OpenSpec.ofChange clientCallsSpec)) clientCallsCard

/-- THE TIED CARD OF 'cablewaylaw33.FabricMay'. -/
def fabricMayCard : Claim7 := { stood := { row := fabricMayRow, standIns := [], harness := (true, "dc327f9d280b8307421190539333f331df3b57ce8cb0ab9479e187b15e4b346b"), looks := false }, kinds := [], alts := [], laidByText := true, laidKinds := [.wider, .wider, .wider, .wider, .wider, .wider, .wider, .wider, .data, .wider, .data, .wider, .wider], laidTests := true, laidLooks := .later }
def FabricMayCardSaid : Prop := Claim7.holds Tryz.pinned (.plain (OpenSpec.ofChange fabricMaySpec)) fabricMayCard

/-- THE TIED CARD OF 'cablewaylaw33.FabricWires'. -/
def fabricWiresCard : Claim7 := { stood := { row := fabricWiresRow, standIns := [], harness := (true, "dc327f9d280b8307421190539333f331df3b57ce8cb0ab9479e187b15e4b346b"), looks := false }, kinds := [], alts := [], laidByText := true, laidKinds := [.wider, .wider, .wider, .wider, .wider, .wider, .wider, .wider, .data, .wider, .data, .wider, .wider], laidTests := true, laidLooks := .later }
def FabricWiresCardSaid : Prop := Claim7.holds Tryz.pinned (.plain (OpenSpec.ofChange fabricWiresSpec)) fabricWiresCard

/-- THE TIED CARD OF 'cablewaylaw33.FabricCalls'. -/
def fabricCallsCard : Claim7 := { stood := { row := fabricCallsRow, standIns := [], harness := (true, "dc327f9d280b8307421190539333f331df3b57ce8cb0ab9479e187b15e4b346b"), looks := false }, kinds := [], alts := [], laidByText := true, laidKinds := [.wider, .wider, .wider, .wider, .wider, .wider, .wider, .wider, .data, .wider, .data, .wider, .wider], laidTests := true, laidLooks := .later }
def FabricCallsCardSaid : Prop := Claim7.holds Tryz.pinned (.plain (OpenSpec.ofChange fabricCallsSpec)) fabricCallsCard

/-- THE TIED CARD OF 'cablewaylaw33.FabricNone'. -/
def fabricNoneCard : Claim7 := { stood := { row := fabricNoneRow, standIns := [], harness := (true, "dc327f9d280b8307421190539333f331df3b57ce8cb0ab9479e187b15e4b346b"), looks := false }, kinds := [], alts := [], laidByText := true, laidKinds := [.wider, .wider, .wider, .wider, .wider, .wider, .wider, .wider, .data, .wider, .data, .wider, .wider], laidTests := true, laidLooks := .later }
def FabricNoneCardSaid : Prop := Claim7.holds Tryz.pinned (.plain (OpenSpec.ofChange fabricNoneSpec)) fabricNoneCard

/-- THE TIED CARD OF 'cablewaylaw33.FabricTimeout'. -/
def fabricTimeoutCard : Claim7 := { stood := { row := fabricTimeoutRow, standIns := [], harness := (true, "dc327f9d280b8307421190539333f331df3b57ce8cb0ab9479e187b15e4b346b"), looks := false }, kinds := [], alts := [], laidByText := true, laidKinds := [.wider, .wider, .wider, .wider, .wider, .wider, .wider, .wider, .data, .wider, .data, .wider, .wider], laidTests := true, laidLooks := .later }
def FabricTimeoutCardSaid : Prop := Claim7.holds Tryz.pinned (.plain (OpenSpec.ofChange fabricTimeoutSpec)) fabricTimeoutCard

/-- THE TIED CARD OF 'cablewaylaw35.MachineRounds'. -/
def machineRoundsCard : Claim7 := { stood := { row := machineRoundsRow, standIns := [], harness := (true, "dc327f9d280b8307421190539333f331df3b57ce8cb0ab9479e187b15e4b346b"), looks := false }, kinds := [], alts := [], laidByText := true, laidKinds := [.wider, .wider, .wider, .wider, .wider, .wider, .wider, .wider, .data, .wider, .data, .wider, .wider], laidTests := true, laidLooks := .later }
def MachineRoundsCardSaid : Prop := Claim7.holds Tryz.pinned (.plain (OpenSpec.ofChange machineRoundsSpec)) machineRoundsCard

/-- THE TIED CARD OF 'cablewaylaw35.MachineCancels'. -/
def machineCancelsCard : Claim7 := { stood := { row := machineCancelsRow, standIns := [], harness := (true, "dc327f9d280b8307421190539333f331df3b57ce8cb0ab9479e187b15e4b346b"), looks := false }, kinds := [], alts := [], laidByText := true, laidKinds := [.wider, .wider, .wider, .wider, .wider, .wider, .wider, .wider, .data, .wider, .data, .wider, .wider], laidTests := true, laidLooks := .later }
def MachineCancelsCardSaid : Prop := Claim7.holds Tryz.pinned (.plain (OpenSpec.ofChange machineCancelsSpec)) machineCancelsCard

/-- THE TIED CARD OF 'cablewaylaw51.GaugeRoom'. -/
def gaugeRoomCard : Claim7 := { stood := { row := gaugeRoomRow, standIns := [], harness := (true, "dc327f9d280b8307421190539333f331df3b57ce8cb0ab9479e187b15e4b346b"), looks := false }, kinds := [], alts := [], laidByText := true, laidKinds := [.wider, .wider, .wider, .wider, .wider, .wider, .wider, .wider, .data, .wider, .data, .wider, .wider, .data, .data, .data, .data], laidTests := true, laidLooks := .later }
def GaugeRoomCardSaid : Prop := Claim7.holds Tryz.pinned (.plain (OpenSpec.ofChange gaugeRoomSpec)) gaugeRoomCard

/-- THE SECOND FORM's CARD OF 'cablewaylaw32.PostBrings'. -/
def postBringsUptoCard : Claim7 := { stood := { row := postBringsUptoRow, standIns := [], harness := (true, "dc327f9d280b8307421190539333f331df3b57ce8cb0ab9479e187b15e4b346b"), looks := false }, kinds := [], alts := [], laidByText := true, laidKinds := [.wider, .wider, .wider, .wider, .wider, .wider, .wider, .wider, .data, .wider, .data], laidTests := true, laidLooks := .later }
def PostBringsUptoCardSaid : Prop := Claim7.holds Tryz.pinned (.plain (OpenSpec.upto postBringsSpec)) postBringsUptoCard

/-- THE SECOND FORM's CARD OF 'cablewaylaw32.PostTwice'. -/
def postTwiceUptoCard : Claim7 := { stood := { row := postTwiceUptoRow, standIns := [], harness := (true, "dc327f9d280b8307421190539333f331df3b57ce8cb0ab9479e187b15e4b346b"), looks := false }, kinds := [], alts := [], laidByText := true, laidKinds := [.wider, .wider, .wider, .wider, .wider, .wider, .wider, .wider, .data, .wider, .data], laidTests := true, laidLooks := .later }
def PostTwiceUptoCardSaid : Prop := Claim7.holds Tryz.pinned (.plain (OpenSpec.upto postTwiceSpec)) postTwiceUptoCard

/-- THE SECOND FORM's CARD OF 'cablewaylaw30.ClientOnce'. -/
def clientOnceUptoCard : Claim7 := { stood := { row := clientOnceUptoRow, standIns := [], harness := (true, "dc327f9d280b8307421190539333f331df3b57ce8cb0ab9479e187b15e4b346b"), looks := false }, kinds := [], alts := [], laidByText := true, laidKinds := [.wider, .wider, .wider, .wider, .wider, .wider, .wider, .wider, .data, .wider, .data, .wider, .wider], laidTests := true, laidLooks := .later }
def ClientOnceUptoCardSaid : Prop := Claim7.holds Tryz.pinned (.plain (OpenSpec.upto clientOnceSpec)) clientOnceUptoCard

/-- THE SECOND FORM's CARD OF 'cablewaylaw30.ClientRefuses'. -/
def clientRefusesUptoCard : Claim7 := { stood := { row := clientRefusesUptoRow, standIns := [], harness := (true, "dc327f9d280b8307421190539333f331df3b57ce8cb0ab9479e187b15e4b346b"), looks := false }, kinds := [], alts := [], laidByText := true, laidKinds := [.wider, .wider, .wider, .wider, .wider, .wider, .wider, .wider, .data, .wider, .data, .wider, .wider], laidTests := true, laidLooks := .later }
def ClientRefusesUptoCardSaid : Prop := Claim7.holds Tryz.pinned (.plain (OpenSpec.upto clientRefusesSpec)) clientRefusesUptoCard

/-- THE SECOND FORM's CARD OF 'cablewaylaw30.ClientCalls'. -/
def clientCallsUptoCard : Claim7 := { stood := { row := clientCallsUptoRow, standIns := [], harness := (true, "dc327f9d280b8307421190539333f331df3b57ce8cb0ab9479e187b15e4b346b"), looks := false }, kinds := [], alts := [], laidByText := true, laidKinds := [.wider, .wider, .wider, .wider, .wider, .wider, .wider, .wider, .data, .wider, .data, .wider, .wider], laidTests := true, laidLooks := .later }
def ClientCallsUptoCardSaid : Prop := Claim7.holds Tryz.pinned (.plain (OpenSpec.upto clientCallsSpec)) clientCallsUptoCard

/-- THE SECOND FORM's CARD OF 'cablewaylaw33.FabricMay'. -/
def fabricMayUptoCard : Claim7 := { stood := { row := fabricMayUptoRow, standIns := [], harness := (true, "dc327f9d280b8307421190539333f331df3b57ce8cb0ab9479e187b15e4b346b"), looks := false }, kinds := [], alts := [], laidByText := true, laidKinds := [.wider, .wider, .wider, .wider, .wider, .wider, .wider, .wider, .data, .wider, .data, .wider, .wider], laidTests := true, laidLooks := .later }
def FabricMayUptoCardSaid : Prop := Claim7.holds Tryz.pinned (.plain (OpenSpec.upto fabricMaySpec)) fabricMayUptoCard

/-- THE SECOND FORM's CARD OF 'cablewaylaw33.FabricWires'. -/
def fabricWiresUptoCard : Claim7 := { stood := { row := fabricWiresUptoRow, standIns := [], harness := (true, "dc327f9d280b8307421190539333f331df3b57ce8cb0ab9479e187b15e4b346b"), looks := false }, kinds := [], alts := [], laidByText := true, laidKinds := [.wider, .wider, .wider, .wider, .wider, .wider, .wider, .wider, .data, .wider, .data, .wider, .wider], laidTests := true, laidLooks := .later }
def FabricWiresUptoCardSaid : Prop := Claim7.holds Tryz.pinned (.plain (OpenSpec.upto fabricWiresSpec)) fabricWiresUptoCard

/-- THE SECOND FORM's CARD OF 'cablewaylaw33.FabricCalls'. -/
def fabricCallsUptoCard : Claim7 := { stood := { row := fabricCallsUptoRow, standIns := [], harness := (true, "dc327f9d280b8307421190539333f331df3b57ce8cb0ab9479e187b15e4b346b"), looks := false }, kinds := [], alts := [], laidByText := true, laidKinds := [.wider, .wider, .wider, .wider, .wider, .wider, .wider, .wider, .data, .wider, .data, .wider, .wider], laidTests := true, laidLooks := .later }
def FabricCallsUptoCardSaid : Prop := Claim7.holds Tryz.pinned (.plain (OpenSpec.upto fabricCallsSpec)) fabricCallsUptoCard

/-- THE SECOND FORM's CARD OF 'cablewaylaw33.FabricNone'. -/
def fabricNoneUptoCard : Claim7 := { stood := { row := fabricNoneUptoRow, standIns := [], harness := (true, "dc327f9d280b8307421190539333f331df3b57ce8cb0ab9479e187b15e4b346b"), looks := false }, kinds := [], alts := [], laidByText := true, laidKinds := [.wider, .wider, .wider, .wider, .wider, .wider, .wider, .wider, .data, .wider, .data, .wider, .wider], laidTests := true, laidLooks := .later }
def FabricNoneUptoCardSaid : Prop := Claim7.holds Tryz.pinned (.plain (OpenSpec.upto fabricNoneSpec)) fabricNoneUptoCard

/-- THE SECOND FORM's CARD OF 'cablewaylaw33.FabricTimeout'. -/
def fabricTimeoutUptoCard : Claim7 := { stood := { row := fabricTimeoutUptoRow, standIns := [], harness := (true, "dc327f9d280b8307421190539333f331df3b57ce8cb0ab9479e187b15e4b346b"), looks := false }, kinds := [], alts := [], laidByText := true, laidKinds := [.wider, .wider, .wider, .wider, .wider, .wider, .wider, .wider, .data, .wider, .data, .wider, .wider], laidTests := true, laidLooks := .later }
def FabricTimeoutUptoCardSaid : Prop := Claim7.holds Tryz.pinned (.plain (OpenSpec.upto fabricTimeoutSpec)) fabricTimeoutUptoCard

/-- THE SECOND FORM's CARD OF 'cablewaylaw35.MachineRounds'. -/
def machineRoundsUptoCard : Claim7 := { stood := { row := machineRoundsUptoRow, standIns := [], harness := (true, "dc327f9d280b8307421190539333f331df3b57ce8cb0ab9479e187b15e4b346b"), looks := false }, kinds := [], alts := [], laidByText := true, laidKinds := [.wider, .wider, .wider, .wider, .wider, .wider, .wider, .wider, .data, .wider, .data, .wider, .wider], laidTests := true, laidLooks := .later }
def MachineRoundsUptoCardSaid : Prop := Claim7.holds Tryz.pinned (.plain (OpenSpec.upto machineRoundsSpec)) machineRoundsUptoCard

/-- THE SECOND FORM's CARD OF 'cablewaylaw35.MachineCancels'. -/
def machineCancelsUptoCard : Claim7 := { stood := { row := machineCancelsUptoRow, standIns := [], harness := (true, "dc327f9d280b8307421190539333f331df3b57ce8cb0ab9479e187b15e4b346b"), looks := false }, kinds := [], alts := [], laidByText := true, laidKinds := [.wider, .wider, .wider, .wider, .wider, .wider, .wider, .wider, .data, .wider, .data, .wider, .wider], laidTests := true, laidLooks := .later }
def MachineCancelsUptoCardSaid : Prop := Claim7.holds Tryz.pinned (.plain (OpenSpec.upto machineCancelsSpec)) machineCancelsUptoCard

/-- THE SECOND FORM's CARD OF 'cablewaylaw51.GaugeRoom'. -/
def gaugeRoomUptoCard : Claim7 := { stood := { row := gaugeRoomUptoRow, standIns := [], harness := (true, "dc327f9d280b8307421190539333f331df3b57ce8cb0ab9479e187b15e4b346b"), looks := false }, kinds := [], alts := [], laidByText := true, laidKinds := [.wider, .wider, .wider, .wider, .wider, .wider, .wider, .wider, .data, .wider, .data, .wider, .wider, .data, .data, .data, .data], laidTests := true, laidLooks := .later }
def GaugeRoomUptoCardSaid : Prop := Claim7.holds Tryz.pinned (.plain (OpenSpec.upto gaugeRoomSpec)) gaugeRoomUptoCard
end Rows
end Go.Proofs.YtnhdpfbfgojkpaaGreatDoor
