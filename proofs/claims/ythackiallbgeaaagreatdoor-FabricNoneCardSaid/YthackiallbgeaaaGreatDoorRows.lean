/-
  NARROWER THAN 'FOR EVERY INPUT', by the rows' own cells (each row's printed sentence says how): ClientRefuses: laid · ClientCalls: laid · FabricNone: laid.
  DERIVED. THE GIVEN ROWS OF THIS SEAT. 3 by the template 'for every input the law returns true; each argument reads behind the call as it read before'; 0 by the template 'total and deterministic' (their statements: YthackiallbgeaaaGreatDoorTotals.lean).
  GIVEN WITH THE SEED: the statements are not yours to turn. If you find one false, say at which input.
  Laid BY PROGRAM, IN A SANDBOX (cutbox-rows.mjs): the forced cells as the released guide's own fill.sh prints them over the translation 20faa2120bbe3764… (all of the seat's roots in one cut). By AI agents, Wed Nov 11 2026. No macro, syntax, notation, axiom, sorry.
-/
import Derived.Test.YthackiallbgeaaaGreatDoorChecked
import GoSem.Claim
import GoSem.ClaimJoined
import GoSem.ClaimMapViews
import Derived.JoinedTies
import Derived.KernelRfl
namespace Go.Proofs.YthackiallbgeaaaGreatDoor
/- THE CELL 'sum', in the pinned program and in every row, IS THE sha256 OF THE DUMP (.gsa) THAT YthackiallbgeaaaGreatDoorProg.lean LOADS. Nothing in Lean hashes anything: it is a label: what it is worth is what the hold of that sum in a sandbox is worth. -/
noncomputable def Tryz.pinned : Pinned := { name := "ythackiallbgeaaagreatdoor", sum := "20faa2120bbe3764b411e019cf693859bd1cabbc00b5497ef3d58bc9d7f2ac15", checked := Tryz.checked }
namespace Rows
def none {H : Type} : Left H := { results := [], args := [] }

/- WHAT THE LISTED PACKAGE-LEVEL VARIABLES READ AS WHEN THE CALL BEGINS. Each datum BY PROGRAM (the guide's laid-datum.mjs) off the statement by which the dump's own 'gosem.cut.vars' lays the variable. In a bare row this is a premise. The card (YthackiallbgeaaaGreatDoorCards.lean) ties it to the program's text. -/
def laid_cableway_frame_kind {H : Type} : DataW H := .agg [.lit (.int .i64 0), .lit (.int .i64 4)]
def laid_cableway_frame_client {H : Type} : DataW H := .agg [.lit (.int .i64 4), .lit (.int .i64 4)]
def laid_cableway_frame_service {H : Type} : DataW H := .agg [.lit (.int .i64 8), .lit (.int .i64 4)]
def laid_cableway_frame_slot {H : Type} : DataW H := .agg [.lit (.int .i64 12), .lit (.int .i64 8)]
def laid_cableway_frame_try {H : Type} : DataW H := .agg [.lit (.int .i64 20), .lit (.int .i64 4)]
def laid_cableway_frame_sure {H : Type} : DataW H := .agg [.lit (.int .i64 24), .lit (.int .i64 1)]
def laid_cableway_frame_stream {H : Type} : DataW H := .agg [.lit (.int .i64 25), .lit (.int .i64 1)]
def laid_cableway_frame_gen {H : Type} : DataW H := .agg [.lit (.int .i64 26), .lit (.int .i64 24)]
def laid_cableway_frame_call {H : Type} : DataW H := .agg [.lit (.int .i64 0), .lit (.int .i64 32)]
def laid_cableway_frame_value {H : Type} : DataW H := .agg [.lit (.int .i64 32), .lit (.int .i64 32)]
def laid_cableway_frame_seq {H : Type} : DataW H := .agg [.lit (.int .i64 0), .lit (.int .i64 16)]
def laid_cableway_slot_gen {H : Type} : DataW H := .agg [.lit (.int .i64 0), .lit (.int .i64 24)]
def laid_cableway_slot_state {H : Type} : DataW H := .agg [.lit (.int .i64 24), .lit (.int .i64 2)]

/-- 'cablewaylaw30.ClientRefuses': WHATEVER THE INPUT: true; the input reads as it did. -/
def clientRefusesSpec : ChangeSpec := { name := "clientRefuses", fn := fun _ => fun
  | [d1, d2] => { results := [.lit (.bool true)], args := [d1, d2] }
  | _ => none }
def clientRefusesRow : OpenClaim := { program := "ythackiallbgeaaagreatdoor", sum := "20faa2120bbe3764b411e019cf693859bd1cabbc00b5497ef3d58bc9d7f2ac15", func := "cableway/cablewaylaw30.ClientRefuses", spec := "clientRefuses", unfollowed := true, recurses := true, named := ["cableway/slot.state", "cableway/slot.gen", "cableway/frame.kind", "cableway/frame.client", "cableway/frame.service", "cableway/frame.slot", "cableway/frame.try", "cableway/frame.sure", "cableway/frame.stream", "cableway/frame.gen", "cableway/frame.value", "cableway/frame.call", "cableway/frame.seq"], apart := false, laid := [("cableway/frame.kind", laid_cableway_frame_kind), ("cableway/frame.client", laid_cableway_frame_client), ("cableway/frame.service", laid_cableway_frame_service), ("cableway/frame.slot", laid_cableway_frame_slot), ("cableway/frame.try", laid_cableway_frame_try), ("cableway/frame.sure", laid_cableway_frame_sure), ("cableway/frame.stream", laid_cableway_frame_stream), ("cableway/frame.gen", laid_cableway_frame_gen), ("cableway/frame.call", laid_cableway_frame_call), ("cableway/frame.value", laid_cableway_frame_value), ("cableway/frame.seq", laid_cableway_frame_seq), ("cableway/slot.gen", laid_cableway_slot_gen), ("cableway/slot.state", laid_cableway_slot_state)] }
def ClientRefusesSaid : Prop := clientRefusesRow.holds Tryz.pinned (OpenSpec.ofChange clientRefusesSpec)

/-- ITS FALSE NEIGHBOUR: 'it returns false'. Refute it at one input. -/
def clientRefusesWrong : ChangeSpec := { name := "clientRefuses", fn := fun _ => fun
  | [d1, d2] => { results := [.lit (.bool false)], args := [d1, d2] }
  | _ => none }
def ClientRefusesWrongFalsely : Prop := clientRefusesRow.holds Tryz.pinned (OpenSpec.ofChange clientRefusesWrong)

/-- 'cablewaylaw30.ClientCalls': WHATEVER THE INPUT: true; the input reads as it did. -/
def clientCallsSpec : ChangeSpec := { name := "clientCalls", fn := fun _ => fun
  | [d1, d2, d3] => { results := [.lit (.bool true)], args := [d1, d2, d3] }
  | _ => none }
def clientCallsRow : OpenClaim := { program := "ythackiallbgeaaagreatdoor", sum := "20faa2120bbe3764b411e019cf693859bd1cabbc00b5497ef3d58bc9d7f2ac15", func := "cableway/cablewaylaw30.ClientCalls", spec := "clientCalls", unfollowed := true, recurses := true, named := ["cableway/slot.state", "cableway/slot.gen", "cableway/frame.kind", "cableway/frame.client", "cableway/frame.service", "cableway/frame.slot", "cableway/frame.try", "cableway/frame.sure", "cableway/frame.stream", "cableway/frame.gen", "cableway/frame.value", "cableway/frame.call", "cableway/frame.seq"], apart := false, laid := [("cableway/frame.kind", laid_cableway_frame_kind), ("cableway/frame.client", laid_cableway_frame_client), ("cableway/frame.service", laid_cableway_frame_service), ("cableway/frame.slot", laid_cableway_frame_slot), ("cableway/frame.try", laid_cableway_frame_try), ("cableway/frame.sure", laid_cableway_frame_sure), ("cableway/frame.stream", laid_cableway_frame_stream), ("cableway/frame.gen", laid_cableway_frame_gen), ("cableway/frame.call", laid_cableway_frame_call), ("cableway/frame.value", laid_cableway_frame_value), ("cableway/frame.seq", laid_cableway_frame_seq), ("cableway/slot.gen", laid_cableway_slot_gen), ("cableway/slot.state", laid_cableway_slot_state)] }
def ClientCallsSaid : Prop := clientCallsRow.holds Tryz.pinned (OpenSpec.ofChange clientCallsSpec)

/-- ITS FALSE NEIGHBOUR: 'it returns false'. Refute it at one input. -/
def clientCallsWrong : ChangeSpec := { name := "clientCalls", fn := fun _ => fun
  | [d1, d2, d3] => { results := [.lit (.bool false)], args := [d1, d2, d3] }
  | _ => none }
def ClientCallsWrongFalsely : Prop := clientCallsRow.holds Tryz.pinned (OpenSpec.ofChange clientCallsWrong)

/-- 'cablewaylaw33.FabricNone': WHATEVER THE INPUT: true; the input reads as it did. -/
def fabricNoneSpec : ChangeSpec := { name := "fabricNone", fn := fun _ => fun
  | [d1, d2, d3] => { results := [.lit (.bool true)], args := [d1, d2, d3] }
  | _ => none }
def fabricNoneRow : OpenClaim := { program := "ythackiallbgeaaagreatdoor", sum := "20faa2120bbe3764b411e019cf693859bd1cabbc00b5497ef3d58bc9d7f2ac15", func := "cableway/cablewaylaw33.FabricNone", spec := "fabricNone", inPlace := ["slices.overlaps[cableway/api.Alarm]"], unfollowed := true, recurses := true, named := ["cableway/slot.state", "cableway/slot.gen", "cableway/frame.kind", "cableway/frame.client", "cableway/frame.service", "cableway/frame.slot", "cableway/frame.try", "cableway/frame.sure", "cableway/frame.stream", "cableway/frame.gen", "cableway/frame.value", "cableway/frame.call", "cableway/frame.seq"], apart := false, laid := [("cableway/frame.kind", laid_cableway_frame_kind), ("cableway/frame.client", laid_cableway_frame_client), ("cableway/frame.service", laid_cableway_frame_service), ("cableway/frame.slot", laid_cableway_frame_slot), ("cableway/frame.try", laid_cableway_frame_try), ("cableway/frame.sure", laid_cableway_frame_sure), ("cableway/frame.stream", laid_cableway_frame_stream), ("cableway/frame.gen", laid_cableway_frame_gen), ("cableway/frame.call", laid_cableway_frame_call), ("cableway/frame.value", laid_cableway_frame_value), ("cableway/frame.seq", laid_cableway_frame_seq), ("cableway/slot.gen", laid_cableway_slot_gen), ("cableway/slot.state", laid_cableway_slot_state)] }
def FabricNoneSaid : Prop := fabricNoneRow.holds Tryz.pinned (OpenSpec.ofChange fabricNoneSpec)

/-- ITS FALSE NEIGHBOUR: 'it returns false'. Refute it at one input. -/
def fabricNoneWrong : ChangeSpec := { name := "fabricNone", fn := fun _ => fun
  | [d1, d2, d3] => { results := [.lit (.bool false)], args := [d1, d2, d3] }
  | _ => none }
def FabricNoneWrongFalsely : Prop := fabricNoneRow.holds Tryz.pinned (OpenSpec.ofChange fabricNoneWrong)

/- THE SECOND FORM. 'bulk': how many values and letters a reading holds, each counted each time it is reached (what is shared counts as often as it is met; a slice's spare places count too). A statement '..UptoSaid' is the law's where the arguments, and the package variables that the reading takes, are together of bulk at most 1048576: NARROWER than '..Said'. Prove '..Said' where nothing that the law and all that it calls make is longer than what came in: it says more and counts as full. Else prove '..UptoSaid'. A law counts once. -/
mutual
def uptoBulk {H : Type} : DataW H → Nat
  | .lit (.string bytes) => bytes.length + 1
  | .lit _ => 1
  | .nil => 1
  | .ptr d => uptoBulk d + 1
  | .slice elems spare => uptoBulkAll elems + uptoBulkAll spare + 1
  | .agg parts => uptoBulkAll parts + 1
  | .iface _ d => uptoBulk d + 1
  | .map entries => uptoBulkEntries entries + 1
  | .held _ => 1
def uptoBulkAll {H : Type} : List (DataW H) → Nat
  | [] => 0
  | d :: r => uptoBulk d + uptoBulkAll r
def uptoBulkEntries {H : Type} : List (Lit × DataW H) → Nat
  | [] => 0
  | x :: r => uptoBulkEntry x + uptoBulkEntries r
def uptoBulkEntry {H : Type} : Lit × DataW H → Nat
  | (.string bytes, d) => bytes.length + uptoBulk d + 1
  | (_, d) => uptoBulk d + 1
 end
def uptoSmall : (H : Type) → List (DataW H) → Bool := fun _ ds => decide (uptoBulkAll ds ≤ 1048576)
def OpenSpec.upto (s : _root_.Go.ChangeSpec) : _root_.Go.OpenSpec := { _root_.Go.OpenSpec.ofChange s with cond := some uptoSmall }

/-- 'cablewaylaw30.ClientRefuses', WHERE WHAT IT READS IS OF BULK AT MOST 1048576: true; the input reads as it did. -/
def clientRefusesUptoRow : OpenClaim := { program := "ythackiallbgeaaagreatdoor", sum := "20faa2120bbe3764b411e019cf693859bd1cabbc00b5497ef3d58bc9d7f2ac15", func := "cableway/cablewaylaw30.ClientRefuses", spec := "clientRefuses", unfollowed := true, recurses := true, named := ["cableway/slot.state", "cableway/slot.gen", "cableway/frame.kind", "cableway/frame.client", "cableway/frame.service", "cableway/frame.slot", "cableway/frame.try", "cableway/frame.sure", "cableway/frame.stream", "cableway/frame.gen", "cableway/frame.value", "cableway/frame.call", "cableway/frame.seq"], apart := false, laid := [("cableway/frame.kind", laid_cableway_frame_kind), ("cableway/frame.client", laid_cableway_frame_client), ("cableway/frame.service", laid_cableway_frame_service), ("cableway/frame.slot", laid_cableway_frame_slot), ("cableway/frame.try", laid_cableway_frame_try), ("cableway/frame.sure", laid_cableway_frame_sure), ("cableway/frame.stream", laid_cableway_frame_stream), ("cableway/frame.gen", laid_cableway_frame_gen), ("cableway/frame.call", laid_cableway_frame_call), ("cableway/frame.value", laid_cableway_frame_value), ("cableway/frame.seq", laid_cableway_frame_seq), ("cableway/slot.gen", laid_cableway_slot_gen), ("cableway/slot.state", laid_cableway_slot_state)], narrowed := true }
def ClientRefusesUptoSaid : Prop := clientRefusesUptoRow.holds Tryz.pinned (OpenSpec.upto clientRefusesSpec)

/-- 'cablewaylaw30.ClientCalls', WHERE WHAT IT READS IS OF BULK AT MOST 1048576: true; the input reads as it did. -/
def clientCallsUptoRow : OpenClaim := { program := "ythackiallbgeaaagreatdoor", sum := "20faa2120bbe3764b411e019cf693859bd1cabbc00b5497ef3d58bc9d7f2ac15", func := "cableway/cablewaylaw30.ClientCalls", spec := "clientCalls", unfollowed := true, recurses := true, named := ["cableway/slot.state", "cableway/slot.gen", "cableway/frame.kind", "cableway/frame.client", "cableway/frame.service", "cableway/frame.slot", "cableway/frame.try", "cableway/frame.sure", "cableway/frame.stream", "cableway/frame.gen", "cableway/frame.value", "cableway/frame.call", "cableway/frame.seq"], apart := false, laid := [("cableway/frame.kind", laid_cableway_frame_kind), ("cableway/frame.client", laid_cableway_frame_client), ("cableway/frame.service", laid_cableway_frame_service), ("cableway/frame.slot", laid_cableway_frame_slot), ("cableway/frame.try", laid_cableway_frame_try), ("cableway/frame.sure", laid_cableway_frame_sure), ("cableway/frame.stream", laid_cableway_frame_stream), ("cableway/frame.gen", laid_cableway_frame_gen), ("cableway/frame.call", laid_cableway_frame_call), ("cableway/frame.value", laid_cableway_frame_value), ("cableway/frame.seq", laid_cableway_frame_seq), ("cableway/slot.gen", laid_cableway_slot_gen), ("cableway/slot.state", laid_cableway_slot_state)], narrowed := true }
def ClientCallsUptoSaid : Prop := clientCallsUptoRow.holds Tryz.pinned (OpenSpec.upto clientCallsSpec)

/-- 'cablewaylaw33.FabricNone', WHERE WHAT IT READS IS OF BULK AT MOST 1048576: true; the input reads as it did. -/
def fabricNoneUptoRow : OpenClaim := { program := "ythackiallbgeaaagreatdoor", sum := "20faa2120bbe3764b411e019cf693859bd1cabbc00b5497ef3d58bc9d7f2ac15", func := "cableway/cablewaylaw33.FabricNone", spec := "fabricNone", inPlace := ["slices.overlaps[cableway/api.Alarm]"], unfollowed := true, recurses := true, named := ["cableway/slot.state", "cableway/slot.gen", "cableway/frame.kind", "cableway/frame.client", "cableway/frame.service", "cableway/frame.slot", "cableway/frame.try", "cableway/frame.sure", "cableway/frame.stream", "cableway/frame.gen", "cableway/frame.value", "cableway/frame.call", "cableway/frame.seq"], apart := false, laid := [("cableway/frame.kind", laid_cableway_frame_kind), ("cableway/frame.client", laid_cableway_frame_client), ("cableway/frame.service", laid_cableway_frame_service), ("cableway/frame.slot", laid_cableway_frame_slot), ("cableway/frame.try", laid_cableway_frame_try), ("cableway/frame.sure", laid_cableway_frame_sure), ("cableway/frame.stream", laid_cableway_frame_stream), ("cableway/frame.gen", laid_cableway_frame_gen), ("cableway/frame.call", laid_cableway_frame_call), ("cableway/frame.value", laid_cableway_frame_value), ("cableway/frame.seq", laid_cableway_frame_seq), ("cableway/slot.gen", laid_cableway_slot_gen), ("cableway/slot.state", laid_cableway_slot_state)], narrowed := true }
def FabricNoneUptoSaid : Prop := fabricNoneUptoRow.holds Tryz.pinned (OpenSpec.upto fabricNoneSpec)

end Rows
end Go.Proofs.YthackiallbgeaaaGreatDoor
