/-
  NARROWER THAN 'FOR EVERY INPUT', by the rows' own cells (each row's printed sentence says how): PostBrings: laid · PostTwice: laid · ClientOnce: laid · ClientRefuses: laid · ClientCalls: laid · FabricMay: laid · FabricWires: laid · FabricCalls: laid · FabricNone: laid · FabricTimeout: laid · MachineRounds: laid · MachineCancels: laid · GaugeRoom: laid.
  DERIVED. THE GIVEN ROWS OF THIS SEAT. 13 by the template 'for every input the law returns true; each argument reads behind the call as it read before'; 0 by the template 'total and deterministic' (their statements: YtnhdpfbfgojkpaaGreatDoorTotals.lean).
  GIVEN WITH THE SEED: the statements are not yours to turn. If you find one false, say at which input.
  Laid BY PROGRAM, IN A SANDBOX (cutbox-rows.mjs): the forced cells as the released guide's own fill.sh prints them over the translation ee28dd9f67a7d710… (all of the seat's roots in one cut). By AI agents, Wed Nov 11 2026. No macro, syntax, notation, axiom, sorry.
-/
import Derived.Test.YtnhdpfbfgojkpaaGreatDoorChecked
import GoSem.Claim
import GoSem.ClaimJoined
import GoSem.ClaimMapViews
import Derived.JoinedTies
import Derived.KernelRfl
namespace Go.Proofs.YtnhdpfbfgojkpaaGreatDoor
/- THE CELL 'sum', in the pinned program and in every row, IS THE sha256 OF THE DUMP (.gsa) THAT YtnhdpfbfgojkpaaGreatDoorProg.lean LOADS. Nothing in Lean hashes anything: it is a label: what it is worth is what the hold of that sum in a sandbox is worth. -/
noncomputable def Tryz.pinned : Pinned := { name := "ytnhdpfbfgojkpaagreatdoor", sum := "ee28dd9f67a7d71066fdd20d52db6629bee1555cd03a7123d641a0dd39f1d304", checked := Tryz.checked }
namespace Rows
def none {H : Type} : Left H := { results := [], args := [] }

/- WHAT THE LISTED PACKAGE-LEVEL VARIABLES READ AS WHEN THE CALL BEGINS. Each datum BY PROGRAM (the guide's laid-datum.mjs) off the statement by which the dump's own 'gosem.cut.vars' lays the variable. In a bare row this is a premise. The card (YtnhdpfbfgojkpaaGreatDoorCards.lean) ties it to the program's text. -/
def laid_cableway_frame_kind {H : Type} : DataW H := .agg [.lit (.int .i64 0), .lit (.int .i64 4)]
def laid_cableway_frame_client {H : Type} : DataW H := .agg [.lit (.int .i64 4), .lit (.int .i64 4)]
def laid_cableway_frame_service {H : Type} : DataW H := .agg [.lit (.int .i64 8), .lit (.int .i64 4)]
def laid_cableway_frame_slot {H : Type} : DataW H := .agg [.lit (.int .i64 12), .lit (.int .i64 8)]
def laid_cableway_frame_try {H : Type} : DataW H := .agg [.lit (.int .i64 20), .lit (.int .i64 4)]
def laid_cableway_frame_sure {H : Type} : DataW H := .agg [.lit (.int .i64 24), .lit (.int .i64 1)]
def laid_cableway_frame_stream {H : Type} : DataW H := .agg [.lit (.int .i64 25), .lit (.int .i64 1)]
def laid_cableway_frame_gen {H : Type} : DataW H := .agg [.lit (.int .i64 26), .lit (.int .i64 24)]
def laid_cableway_frame_call {H : Type} : DataW H := .agg [.lit (.int .i64 0), .lit (.int .i64 32)]
def laid_cableway_frame_value {H : Type} : DataW H := .agg [.lit (.int .i64 32), .lit (.int .i64 32)]
def laid_cableway_frame_seq {H : Type} : DataW H := .agg [.lit (.int .i64 0), .lit (.int .i64 16)]
def laid_cableway_slot_gen {H : Type} : DataW H := .agg [.lit (.int .i64 0), .lit (.int .i64 24)]
def laid_cableway_slot_state {H : Type} : DataW H := .agg [.lit (.int .i64 24), .lit (.int .i64 2)]
def laid_math_bits_deBruijn32tab {H : Type} : DataW H := .agg [.lit (.int .u8 0), .lit (.int .u8 1), .lit (.int .u8 28), .lit (.int .u8 2), .lit (.int .u8 29), .lit (.int .u8 14), .lit (.int .u8 24), .lit (.int .u8 3), .lit (.int .u8 30), .lit (.int .u8 22), .lit (.int .u8 20), .lit (.int .u8 15), .lit (.int .u8 25), .lit (.int .u8 17), .lit (.int .u8 4), .lit (.int .u8 8), .lit (.int .u8 31), .lit (.int .u8 27), .lit (.int .u8 13), .lit (.int .u8 23), .lit (.int .u8 21), .lit (.int .u8 19), .lit (.int .u8 16), .lit (.int .u8 7), .lit (.int .u8 26), .lit (.int .u8 12), .lit (.int .u8 18), .lit (.int .u8 6), .lit (.int .u8 11), .lit (.int .u8 5), .lit (.int .u8 10), .lit (.int .u8 9)]
def laid_math_bits_deBruijn64tab {H : Type} : DataW H := .agg [.lit (.int .u8 0), .lit (.int .u8 1), .lit (.int .u8 56), .lit (.int .u8 2), .lit (.int .u8 57), .lit (.int .u8 49), .lit (.int .u8 28), .lit (.int .u8 3), .lit (.int .u8 61), .lit (.int .u8 58), .lit (.int .u8 42), .lit (.int .u8 50), .lit (.int .u8 38), .lit (.int .u8 29), .lit (.int .u8 17), .lit (.int .u8 4), .lit (.int .u8 62), .lit (.int .u8 47), .lit (.int .u8 59), .lit (.int .u8 36), .lit (.int .u8 45), .lit (.int .u8 43), .lit (.int .u8 51), .lit (.int .u8 22), .lit (.int .u8 53), .lit (.int .u8 39), .lit (.int .u8 33), .lit (.int .u8 30), .lit (.int .u8 24), .lit (.int .u8 18), .lit (.int .u8 12), .lit (.int .u8 5), .lit (.int .u8 63), .lit (.int .u8 55), .lit (.int .u8 48), .lit (.int .u8 27), .lit (.int .u8 60), .lit (.int .u8 41), .lit (.int .u8 37), .lit (.int .u8 16), .lit (.int .u8 46), .lit (.int .u8 35), .lit (.int .u8 44), .lit (.int .u8 21), .lit (.int .u8 52), .lit (.int .u8 32), .lit (.int .u8 23), .lit (.int .u8 11), .lit (.int .u8 54), .lit (.int .u8 26), .lit (.int .u8 40), .lit (.int .u8 15), .lit (.int .u8 34), .lit (.int .u8 20), .lit (.int .u8 31), .lit (.int .u8 10), .lit (.int .u8 25), .lit (.int .u8 14), .lit (.int .u8 19), .lit (.int .u8 9), .lit (.int .u8 13), .lit (.int .u8 8), .lit (.int .u8 7), .lit (.int .u8 6)]
def laid_internal_strconv_uint64pow10 {H : Type} : DataW H := .agg [.lit (.int .u64 1), .lit (.int .u64 10), .lit (.int .u64 100), .lit (.int .u64 1000), .lit (.int .u64 10000), .lit (.int .u64 100000), .lit (.int .u64 1000000), .lit (.int .u64 10000000), .lit (.int .u64 100000000), .lit (.int .u64 1000000000), .lit (.int .u64 10000000000), .lit (.int .u64 100000000000), .lit (.int .u64 1000000000000), .lit (.int .u64 10000000000000), .lit (.int .u64 100000000000000), .lit (.int .u64 1000000000000000), .lit (.int .u64 10000000000000000), .lit (.int .u64 100000000000000000), .lit (.int .u64 1000000000000000000), .lit (.int .u64 10000000000000000000)]
def laid_cableway_gauge_words {H : Type} : DataW H := .agg [.lit (.string [114, 101, 113, 117, 101, 115, 116, 115]), .lit (.string [114, 101, 112, 108, 105, 101, 115]), .lit (.string [100, 117, 101, 115]), .lit (.string [97, 108, 97, 114, 109, 115]), .lit (.string [115, 108, 111, 116, 115]), .lit (.string [114, 101, 99, 111, 114, 100, 115]), .lit (.string [107, 110, 111, 119, 110]), .lit (.string [99, 108, 111, 99, 107]), .lit (.string [97, 110, 115, 119, 101, 114, 115]), .lit (.string [108, 111, 97, 100, 115])]

/-- 'cablewaylaw32.PostBrings': WHATEVER THE INPUT: true; the input reads as it did. -/
def postBringsSpec : ChangeSpec := { name := "postBrings", fn := fun _ => fun
  | [d1, d2] => { results := [.lit (.bool true)], args := [d1, d2] }
  | _ => none }
def postBringsRow : OpenClaim := { program := "ytnhdpfbfgojkpaagreatdoor", sum := "ee28dd9f67a7d71066fdd20d52db6629bee1555cd03a7123d641a0dd39f1d304", func := "cableway/cablewaylaw32.PostBrings", spec := "postBrings", unfollowed := true, recurses := true, named := ["cableway/frame.kind", "cableway/frame.client", "cableway/frame.service", "cableway/frame.slot", "cableway/frame.try", "cableway/frame.sure", "cableway/frame.stream", "cableway/frame.gen", "cableway/frame.value", "cableway/frame.call", "cableway/frame.seq"], apart := false, laid := [("cableway/frame.kind", laid_cableway_frame_kind), ("cableway/frame.client", laid_cableway_frame_client), ("cableway/frame.service", laid_cableway_frame_service), ("cableway/frame.slot", laid_cableway_frame_slot), ("cableway/frame.try", laid_cableway_frame_try), ("cableway/frame.sure", laid_cableway_frame_sure), ("cableway/frame.stream", laid_cableway_frame_stream), ("cableway/frame.gen", laid_cableway_frame_gen), ("cableway/frame.call", laid_cableway_frame_call), ("cableway/frame.value", laid_cableway_frame_value), ("cableway/frame.seq", laid_cableway_frame_seq)] }
def PostBringsSaid : Prop := postBringsRow.holds Tryz.pinned (OpenSpec.ofChange postBringsSpec)

/-- ITS FALSE NEIGHBOUR: 'it returns false'. Refute it at one input. -/
def postBringsWrong : ChangeSpec := { name := "postBrings", fn := fun _ => fun
  | [d1, d2] => { results := [.lit (.bool false)], args := [d1, d2] }
  | _ => none }
def PostBringsWrongFalsely : Prop := postBringsRow.holds Tryz.pinned (OpenSpec.ofChange postBringsWrong)

/-- 'cablewaylaw32.PostTwice': WHATEVER THE INPUT: true; the input reads as it did. -/
def postTwiceSpec : ChangeSpec := { name := "postTwice", fn := fun _ => fun
  | [d1, d2] => { results := [.lit (.bool true)], args := [d1, d2] }
  | _ => none }
def postTwiceRow : OpenClaim := { program := "ytnhdpfbfgojkpaagreatdoor", sum := "ee28dd9f67a7d71066fdd20d52db6629bee1555cd03a7123d641a0dd39f1d304", func := "cableway/cablewaylaw32.PostTwice", spec := "postTwice", unfollowed := true, recurses := true, named := ["cableway/frame.kind", "cableway/frame.client", "cableway/frame.service", "cableway/frame.slot", "cableway/frame.try", "cableway/frame.sure", "cableway/frame.stream", "cableway/frame.gen", "cableway/frame.value", "cableway/frame.call", "cableway/frame.seq"], apart := false, laid := [("cableway/frame.kind", laid_cableway_frame_kind), ("cableway/frame.client", laid_cableway_frame_client), ("cableway/frame.service", laid_cableway_frame_service), ("cableway/frame.slot", laid_cableway_frame_slot), ("cableway/frame.try", laid_cableway_frame_try), ("cableway/frame.sure", laid_cableway_frame_sure), ("cableway/frame.stream", laid_cableway_frame_stream), ("cableway/frame.gen", laid_cableway_frame_gen), ("cableway/frame.call", laid_cableway_frame_call), ("cableway/frame.value", laid_cableway_frame_value), ("cableway/frame.seq", laid_cableway_frame_seq)] }
def PostTwiceSaid : Prop := postTwiceRow.holds Tryz.pinned (OpenSpec.ofChange postTwiceSpec)

/-- ITS FALSE NEIGHBOUR: 'it returns false'. Refute it at one input. -/
def postTwiceWrong : ChangeSpec := { name := "postTwice", fn := fun _ => fun
  | [d1, d2] => { results := [.lit (.bool false)], args := [d1, d2] }
  | _ => none }
def PostTwiceWrongFalsely : Prop := postTwiceRow.holds Tryz.pinned (OpenSpec.ofChange postTwiceWrong)

/-- 'cablewaylaw30.ClientOnce': WHATEVER THE INPUT: true; the input reads as it did. -/
def clientOnceSpec : ChangeSpec := { name := "clientOnce", fn := fun _ => fun
  | [d] => { results := [.lit (.bool true)], args := [d] }
  | _ => none }
def clientOnceRow : OpenClaim := { program := "ytnhdpfbfgojkpaagreatdoor", sum := "ee28dd9f67a7d71066fdd20d52db6629bee1555cd03a7123d641a0dd39f1d304", func := "cableway/cablewaylaw30.ClientOnce", spec := "clientOnce", unfollowed := true, recurses := true, named := ["cableway/slot.state", "cableway/slot.gen", "cableway/frame.kind", "cableway/frame.client", "cableway/frame.service", "cableway/frame.slot", "cableway/frame.try", "cableway/frame.sure", "cableway/frame.stream", "cableway/frame.gen", "cableway/frame.value", "cableway/frame.call", "cableway/frame.seq"], apart := false, laid := [("cableway/frame.kind", laid_cableway_frame_kind), ("cableway/frame.client", laid_cableway_frame_client), ("cableway/frame.service", laid_cableway_frame_service), ("cableway/frame.slot", laid_cableway_frame_slot), ("cableway/frame.try", laid_cableway_frame_try), ("cableway/frame.sure", laid_cableway_frame_sure), ("cableway/frame.stream", laid_cableway_frame_stream), ("cableway/frame.gen", laid_cableway_frame_gen), ("cableway/frame.call", laid_cableway_frame_call), ("cableway/frame.value", laid_cableway_frame_value), ("cableway/frame.seq", laid_cableway_frame_seq), ("cableway/slot.gen", laid_cableway_slot_gen), ("cableway/slot.state", laid_cableway_slot_state)] }
def ClientOnceSaid : Prop := clientOnceRow.holds Tryz.pinned (OpenSpec.ofChange clientOnceSpec)

/-- ITS FALSE NEIGHBOUR: 'it returns false'. Refute it at one input. -/
def clientOnceWrong : ChangeSpec := { name := "clientOnce", fn := fun _ => fun
  | [d] => { results := [.lit (.bool false)], args := [d] }
  | _ => none }
def ClientOnceWrongFalsely : Prop := clientOnceRow.holds Tryz.pinned (OpenSpec.ofChange clientOnceWrong)

/-- 'cablewaylaw30.ClientRefuses': WHATEVER THE INPUT: true; the input reads as it did. -/
def clientRefusesSpec : ChangeSpec := { name := "clientRefuses", fn := fun _ => fun
  | [d1, d2] => { results := [.lit (.bool true)], args := [d1, d2] }
  | _ => none }
def clientRefusesRow : OpenClaim := { program := "ytnhdpfbfgojkpaagreatdoor", sum := "ee28dd9f67a7d71066fdd20d52db6629bee1555cd03a7123d641a0dd39f1d304", func := "cableway/cablewaylaw30.ClientRefuses", spec := "clientRefuses", unfollowed := true, recurses := true, named := ["cableway/slot.state", "cableway/slot.gen", "cableway/frame.kind", "cableway/frame.client", "cableway/frame.service", "cableway/frame.slot", "cableway/frame.try", "cableway/frame.sure", "cableway/frame.stream", "cableway/frame.gen", "cableway/frame.value", "cableway/frame.call", "cableway/frame.seq"], apart := false, laid := [("cableway/frame.kind", laid_cableway_frame_kind), ("cableway/frame.client", laid_cableway_frame_client), ("cableway/frame.service", laid_cableway_frame_service), ("cableway/frame.slot", laid_cableway_frame_slot), ("cableway/frame.try", laid_cableway_frame_try), ("cableway/frame.sure", laid_cableway_frame_sure), ("cableway/frame.stream", laid_cableway_frame_stream), ("cableway/frame.gen", laid_cableway_frame_gen), ("cableway/frame.call", laid_cableway_frame_call), ("cableway/frame.value", laid_cableway_frame_value), ("cableway/frame.seq", laid_cableway_frame_seq), ("cableway/slot.gen", laid_cableway_slot_gen), ("cableway/slot.state", laid_cableway_slot_state)] }
def ClientRefusesSaid : Prop := clientRefusesRow.holds Tryz.pinned (OpenSpec.ofChange clientRefusesSpec)

/-- ITS FALSE NEIGHBOUR: 'it returns false'. Refute it at one input. -/
def clientRefusesWrong : ChangeSpec := { name := "clientRefuses", fn := fun _ => fun
  | [d1, d2] => { results := [.lit (.bool false)], args := [d1, d2] }
  | _ => none }
def ClientRefusesWrongFalsely : Prop := clientRefusesRow.holds Tryz.pinned (OpenSpec.ofChange clientRefusesWrong)

/-- 'cablewaylaw30.ClientCalls': WHATEVER THE INPUT: true; the input reads as it did. -/
def clientCallsSpec : ChangeSpec := { name := "clientCalls", fn := fun _ => fun
  | [d1, d2, d3] => { results := [.lit (.bool true)], args := [d1, d2, d3] }
  | _ => none }
def clientCallsRow : OpenClaim := { program := "ytnhdpfbfgojkpaagreatdoor", sum := "ee28dd9f67a7d71066fdd20d52db6629bee1555cd03a7123d641a0dd39f1d304", func := "cableway/cablewaylaw30.ClientCalls", spec := "clientCalls", unfollowed := true, recurses := true, named := ["cableway/slot.state", "cableway/slot.gen", "cableway/frame.kind", "cableway/frame.client", "cableway/frame.service", "cableway/frame.slot", "cableway/frame.try", "cableway/frame.sure", "cableway/frame.stream", "cableway/frame.gen", "cableway/frame.value", "cableway/frame.call", "cableway/frame.seq"], apart := false, laid := [("cableway/frame.kind", laid_cableway_frame_kind), ("cableway/frame.client", laid_cableway_frame_client), ("cableway/frame.service", laid_cableway_frame_service), ("cableway/frame.slot", laid_cableway_frame_slot), ("cableway/frame.try", laid_cableway_frame_try), ("cableway/frame.sure", laid_cableway_frame_sure), ("cableway/frame.stream", laid_cableway_frame_stream), ("cableway/frame.gen", laid_cableway_frame_gen), ("cableway/frame.call", laid_cableway_frame_call), ("cableway/frame.value", laid_cableway_frame_value), ("cableway/frame.seq", laid_cableway_frame_seq), ("cableway/slot.gen", laid_cableway_slot_gen), ("cableway/slot.state", laid_cableway_slot_state)] }
def ClientCallsSaid : Prop := clientCallsRow.holds Tryz.pinned (OpenSpec.ofChange clientCallsSpec)

/-- ITS FALSE NEIGHBOUR: 'it returns false'. Refute it at one input. -/
def clientCallsWrong : ChangeSpec := { name := "clientCalls", fn := fun _ => fun
  | [d1, d2, d3] => { results := [.lit (.bool false)], args := [d1, d2, d3] }
  | _ => none }
def ClientCallsWrongFalsely : Prop := clientCallsRow.holds Tryz.pinned (OpenSpec.ofChange clientCallsWrong)

/-- 'cablewaylaw33.FabricMay': WHATEVER THE INPUT: true; the input reads as it did. -/
def fabricMaySpec : ChangeSpec := { name := "fabricMay", fn := fun _ => fun
  | [d] => { results := [.lit (.bool true)], args := [d] }
  | _ => none }
def fabricMayRow : OpenClaim := { program := "ytnhdpfbfgojkpaagreatdoor", sum := "ee28dd9f67a7d71066fdd20d52db6629bee1555cd03a7123d641a0dd39f1d304", func := "cableway/cablewaylaw33.FabricMay", spec := "fabricMay", unfollowed := true, recurses := true, named := ["cableway/slot.state", "cableway/slot.gen", "cableway/frame.kind", "cableway/frame.client", "cableway/frame.service", "cableway/frame.slot", "cableway/frame.try", "cableway/frame.sure", "cableway/frame.stream", "cableway/frame.gen", "cableway/frame.value", "cableway/frame.call", "cableway/frame.seq"], apart := false, laid := [("cableway/frame.kind", laid_cableway_frame_kind), ("cableway/frame.client", laid_cableway_frame_client), ("cableway/frame.service", laid_cableway_frame_service), ("cableway/frame.slot", laid_cableway_frame_slot), ("cableway/frame.try", laid_cableway_frame_try), ("cableway/frame.sure", laid_cableway_frame_sure), ("cableway/frame.stream", laid_cableway_frame_stream), ("cableway/frame.gen", laid_cableway_frame_gen), ("cableway/frame.call", laid_cableway_frame_call), ("cableway/frame.value", laid_cableway_frame_value), ("cableway/frame.seq", laid_cableway_frame_seq), ("cableway/slot.gen", laid_cableway_slot_gen), ("cableway/slot.state", laid_cableway_slot_state)] }
def FabricMaySaid : Prop := fabricMayRow.holds Tryz.pinned (OpenSpec.ofChange fabricMaySpec)

/-- ITS FALSE NEIGHBOUR: 'it returns false'. Refute it at one input. -/
def fabricMayWrong : ChangeSpec := { name := "fabricMay", fn := fun _ => fun
  | [d] => { results := [.lit (.bool false)], args := [d] }
  | _ => none }
def FabricMayWrongFalsely : Prop := fabricMayRow.holds Tryz.pinned (OpenSpec.ofChange fabricMayWrong)

/-- 'cablewaylaw33.FabricWires': WHATEVER THE INPUT: true; the input reads as it did. -/
def fabricWiresSpec : ChangeSpec := { name := "fabricWires", fn := fun _ => fun
  | [d1, d2, d3] => { results := [.lit (.bool true)], args := [d1, d2, d3] }
  | _ => none }
def fabricWiresRow : OpenClaim := { program := "ytnhdpfbfgojkpaagreatdoor", sum := "ee28dd9f67a7d71066fdd20d52db6629bee1555cd03a7123d641a0dd39f1d304", func := "cableway/cablewaylaw33.FabricWires", spec := "fabricWires", unfollowed := true, recurses := true, named := ["cableway/slot.state", "cableway/slot.gen", "cableway/frame.kind", "cableway/frame.client", "cableway/frame.service", "cableway/frame.slot", "cableway/frame.try", "cableway/frame.sure", "cableway/frame.stream", "cableway/frame.gen", "cableway/frame.value", "cableway/frame.call", "cableway/frame.seq"], apart := false, laid := [("cableway/frame.kind", laid_cableway_frame_kind), ("cableway/frame.client", laid_cableway_frame_client), ("cableway/frame.service", laid_cableway_frame_service), ("cableway/frame.slot", laid_cableway_frame_slot), ("cableway/frame.try", laid_cableway_frame_try), ("cableway/frame.sure", laid_cableway_frame_sure), ("cableway/frame.stream", laid_cableway_frame_stream), ("cableway/frame.gen", laid_cableway_frame_gen), ("cableway/frame.call", laid_cableway_frame_call), ("cableway/frame.value", laid_cableway_frame_value), ("cableway/frame.seq", laid_cableway_frame_seq), ("cableway/slot.gen", laid_cableway_slot_gen), ("cableway/slot.state", laid_cableway_slot_state)] }
def FabricWiresSaid : Prop := fabricWiresRow.holds Tryz.pinned (OpenSpec.ofChange fabricWiresSpec)

/-- ITS FALSE NEIGHBOUR: 'it returns false'. Refute it at one input. -/
def fabricWiresWrong : ChangeSpec := { name := "fabricWires", fn := fun _ => fun
  | [d1, d2, d3] => { results := [.lit (.bool false)], args := [d1, d2, d3] }
  | _ => none }
def FabricWiresWrongFalsely : Prop := fabricWiresRow.holds Tryz.pinned (OpenSpec.ofChange fabricWiresWrong)

/-- 'cablewaylaw33.FabricCalls': WHATEVER THE INPUT: true; the input reads as it did. -/
def fabricCallsSpec : ChangeSpec := { name := "fabricCalls", fn := fun _ => fun
  | [d1, d2, d3] => { results := [.lit (.bool true)], args := [d1, d2, d3] }
  | _ => none }
def fabricCallsRow : OpenClaim := { program := "ytnhdpfbfgojkpaagreatdoor", sum := "ee28dd9f67a7d71066fdd20d52db6629bee1555cd03a7123d641a0dd39f1d304", func := "cableway/cablewaylaw33.FabricCalls", spec := "fabricCalls", inPlace := ["slices.overlaps[cableway/api.Alarm]"], unfollowed := true, recurses := true, named := ["cableway/slot.state", "cableway/slot.gen", "cableway/frame.kind", "cableway/frame.client", "cableway/frame.service", "cableway/frame.slot", "cableway/frame.try", "cableway/frame.sure", "cableway/frame.stream", "cableway/frame.gen", "cableway/frame.value", "cableway/frame.call", "cableway/frame.seq"], apart := false, laid := [("cableway/frame.kind", laid_cableway_frame_kind), ("cableway/frame.client", laid_cableway_frame_client), ("cableway/frame.service", laid_cableway_frame_service), ("cableway/frame.slot", laid_cableway_frame_slot), ("cableway/frame.try", laid_cableway_frame_try), ("cableway/frame.sure", laid_cableway_frame_sure), ("cableway/frame.stream", laid_cableway_frame_stream), ("cableway/frame.gen", laid_cableway_frame_gen), ("cableway/frame.call", laid_cableway_frame_call), ("cableway/frame.value", laid_cableway_frame_value), ("cableway/frame.seq", laid_cableway_frame_seq), ("cableway/slot.gen", laid_cableway_slot_gen), ("cableway/slot.state", laid_cableway_slot_state)] }
def FabricCallsSaid : Prop := fabricCallsRow.holds Tryz.pinned (OpenSpec.ofChange fabricCallsSpec)

/-- ITS FALSE NEIGHBOUR: 'it returns false'. Refute it at one input. -/
def fabricCallsWrong : ChangeSpec := { name := "fabricCalls", fn := fun _ => fun
  | [d1, d2, d3] => { results := [.lit (.bool false)], args := [d1, d2, d3] }
  | _ => none }
def FabricCallsWrongFalsely : Prop := fabricCallsRow.holds Tryz.pinned (OpenSpec.ofChange fabricCallsWrong)

/-- 'cablewaylaw33.FabricNone': WHATEVER THE INPUT: true; the input reads as it did. -/
def fabricNoneSpec : ChangeSpec := { name := "fabricNone", fn := fun _ => fun
  | [d1, d2, d3] => { results := [.lit (.bool true)], args := [d1, d2, d3] }
  | _ => none }
def fabricNoneRow : OpenClaim := { program := "ytnhdpfbfgojkpaagreatdoor", sum := "ee28dd9f67a7d71066fdd20d52db6629bee1555cd03a7123d641a0dd39f1d304", func := "cableway/cablewaylaw33.FabricNone", spec := "fabricNone", inPlace := ["slices.overlaps[cableway/api.Alarm]"], unfollowed := true, recurses := true, named := ["cableway/slot.state", "cableway/slot.gen", "cableway/frame.kind", "cableway/frame.client", "cableway/frame.service", "cableway/frame.slot", "cableway/frame.try", "cableway/frame.sure", "cableway/frame.stream", "cableway/frame.gen", "cableway/frame.value", "cableway/frame.call", "cableway/frame.seq"], apart := false, laid := [("cableway/frame.kind", laid_cableway_frame_kind), ("cableway/frame.client", laid_cableway_frame_client), ("cableway/frame.service", laid_cableway_frame_service), ("cableway/frame.slot", laid_cableway_frame_slot), ("cableway/frame.try", laid_cableway_frame_try), ("cableway/frame.sure", laid_cableway_frame_sure), ("cableway/frame.stream", laid_cableway_frame_stream), ("cableway/frame.gen", laid_cableway_frame_gen), ("cableway/frame.call", laid_cableway_frame_call), ("cableway/frame.value", laid_cableway_frame_value), ("cableway/frame.seq", laid_cableway_frame_seq), ("cableway/slot.gen", laid_cableway_slot_gen), ("cableway/slot.state", laid_cableway_slot_state)] }
def FabricNoneSaid : Prop := fabricNoneRow.holds Tryz.pinned (OpenSpec.ofChange fabricNoneSpec)

/-- ITS FALSE NEIGHBOUR: 'it returns false'. Refute it at one input. -/
def fabricNoneWrong : ChangeSpec := { name := "fabricNone", fn := fun _ => fun
  | [d1, d2, d3] => { results := [.lit (.bool false)], args := [d1, d2, d3] }
  | _ => none }
def FabricNoneWrongFalsely : Prop := fabricNoneRow.holds Tryz.pinned (OpenSpec.ofChange fabricNoneWrong)

/-- 'cablewaylaw33.FabricTimeout': WHATEVER THE INPUT: true; the input reads as it did. -/
def fabricTimeoutSpec : ChangeSpec := { name := "fabricTimeout", fn := fun _ => fun
  | [d1, d2] => { results := [.lit (.bool true)], args := [d1, d2] }
  | _ => none }
def fabricTimeoutRow : OpenClaim := { program := "ytnhdpfbfgojkpaagreatdoor", sum := "ee28dd9f67a7d71066fdd20d52db6629bee1555cd03a7123d641a0dd39f1d304", func := "cableway/cablewaylaw33.FabricTimeout", spec := "fabricTimeout", inPlace := ["slices.overlaps[cableway/api.Alarm]"], unfollowed := true, recurses := true, named := ["cableway/slot.state", "cableway/slot.gen", "cableway/frame.kind", "cableway/frame.client", "cableway/frame.service", "cableway/frame.slot", "cableway/frame.try", "cableway/frame.sure", "cableway/frame.stream", "cableway/frame.gen", "cableway/frame.value", "cableway/frame.call", "cableway/frame.seq"], apart := false, laid := [("cableway/frame.kind", laid_cableway_frame_kind), ("cableway/frame.client", laid_cableway_frame_client), ("cableway/frame.service", laid_cableway_frame_service), ("cableway/frame.slot", laid_cableway_frame_slot), ("cableway/frame.try", laid_cableway_frame_try), ("cableway/frame.sure", laid_cableway_frame_sure), ("cableway/frame.stream", laid_cableway_frame_stream), ("cableway/frame.gen", laid_cableway_frame_gen), ("cableway/frame.call", laid_cableway_frame_call), ("cableway/frame.value", laid_cableway_frame_value), ("cableway/frame.seq", laid_cableway_frame_seq), ("cableway/slot.gen", laid_cableway_slot_gen), ("cableway/slot.state", laid_cableway_slot_state)] }
def FabricTimeoutSaid : Prop := fabricTimeoutRow.holds Tryz.pinned (OpenSpec.ofChange fabricTimeoutSpec)

/-- ITS FALSE NEIGHBOUR: 'it returns false'. Refute it at one input. -/
def fabricTimeoutWrong : ChangeSpec := { name := "fabricTimeout", fn := fun _ => fun
  | [d1, d2] => { results := [.lit (.bool false)], args := [d1, d2] }
  | _ => none }
def FabricTimeoutWrongFalsely : Prop := fabricTimeoutRow.holds Tryz.pinned (OpenSpec.ofChange fabricTimeoutWrong)

/-- 'cablewaylaw35.MachineRounds': WHATEVER THE INPUT: true; the input reads as it did. -/
def machineRoundsSpec : ChangeSpec := { name := "machineRounds", fn := fun _ => fun
  | [d1, d2] => { results := [.lit (.bool true)], args := [d1, d2] }
  | _ => none }
def machineRoundsRow : OpenClaim := { program := "ytnhdpfbfgojkpaagreatdoor", sum := "ee28dd9f67a7d71066fdd20d52db6629bee1555cd03a7123d641a0dd39f1d304", func := "cableway/cablewaylaw35.MachineRounds", spec := "machineRounds", inPlace := ["slices.overlaps[cableway/api.Alarm]"], unfollowed := true, recurses := true, named := ["cableway/slot.state", "cableway/slot.gen", "cableway/frame.kind", "cableway/frame.client", "cableway/frame.service", "cableway/frame.slot", "cableway/frame.try", "cableway/frame.sure", "cableway/frame.stream", "cableway/frame.gen", "cableway/frame.value", "cableway/frame.call", "cableway/frame.seq"], apart := false, laid := [("cableway/frame.kind", laid_cableway_frame_kind), ("cableway/frame.client", laid_cableway_frame_client), ("cableway/frame.service", laid_cableway_frame_service), ("cableway/frame.slot", laid_cableway_frame_slot), ("cableway/frame.try", laid_cableway_frame_try), ("cableway/frame.sure", laid_cableway_frame_sure), ("cableway/frame.stream", laid_cableway_frame_stream), ("cableway/frame.gen", laid_cableway_frame_gen), ("cableway/frame.call", laid_cableway_frame_call), ("cableway/frame.value", laid_cableway_frame_value), ("cableway/frame.seq", laid_cableway_frame_seq), ("cableway/slot.gen", laid_cableway_slot_gen), ("cableway/slot.state", laid_cableway_slot_state)] }
def MachineRoundsSaid : Prop := machineRoundsRow.holds Tryz.pinned (OpenSpec.ofChange machineRoundsSpec)

/-- ITS FALSE NEIGHBOUR: 'it returns false'. Refute it at one input. -/
def machineRoundsWrong : ChangeSpec := { name := "machineRounds", fn := fun _ => fun
  | [d1, d2] => { results := [.lit (.bool false)], args := [d1, d2] }
  | _ => none }
def MachineRoundsWrongFalsely : Prop := machineRoundsRow.holds Tryz.pinned (OpenSpec.ofChange machineRoundsWrong)

/-- 'cablewaylaw35.MachineCancels': WHATEVER THE INPUT: true; the input reads as it did. -/
def machineCancelsSpec : ChangeSpec := { name := "machineCancels", fn := fun _ => fun
  | [d1, d2, d3] => { results := [.lit (.bool true)], args := [d1, d2, d3] }
  | _ => none }
def machineCancelsRow : OpenClaim := { program := "ytnhdpfbfgojkpaagreatdoor", sum := "ee28dd9f67a7d71066fdd20d52db6629bee1555cd03a7123d641a0dd39f1d304", func := "cableway/cablewaylaw35.MachineCancels", spec := "machineCancels", inPlace := ["slices.overlaps[cableway/api.Alarm]"], unfollowed := true, recurses := true, named := ["cableway/slot.state", "cableway/slot.gen", "cableway/frame.kind", "cableway/frame.client", "cableway/frame.service", "cableway/frame.slot", "cableway/frame.try", "cableway/frame.sure", "cableway/frame.stream", "cableway/frame.gen", "cableway/frame.value", "cableway/frame.call", "cableway/frame.seq"], apart := false, laid := [("cableway/frame.kind", laid_cableway_frame_kind), ("cableway/frame.client", laid_cableway_frame_client), ("cableway/frame.service", laid_cableway_frame_service), ("cableway/frame.slot", laid_cableway_frame_slot), ("cableway/frame.try", laid_cableway_frame_try), ("cableway/frame.sure", laid_cableway_frame_sure), ("cableway/frame.stream", laid_cableway_frame_stream), ("cableway/frame.gen", laid_cableway_frame_gen), ("cableway/frame.call", laid_cableway_frame_call), ("cableway/frame.value", laid_cableway_frame_value), ("cableway/frame.seq", laid_cableway_frame_seq), ("cableway/slot.gen", laid_cableway_slot_gen), ("cableway/slot.state", laid_cableway_slot_state)] }
def MachineCancelsSaid : Prop := machineCancelsRow.holds Tryz.pinned (OpenSpec.ofChange machineCancelsSpec)

/-- ITS FALSE NEIGHBOUR: 'it returns false'. Refute it at one input. -/
def machineCancelsWrong : ChangeSpec := { name := "machineCancels", fn := fun _ => fun
  | [d1, d2, d3] => { results := [.lit (.bool false)], args := [d1, d2, d3] }
  | _ => none }
def MachineCancelsWrongFalsely : Prop := machineCancelsRow.holds Tryz.pinned (OpenSpec.ofChange machineCancelsWrong)

/-- 'cablewaylaw51.GaugeRoom': WHATEVER THE INPUT: true; the input reads as it did. -/
def gaugeRoomSpec : ChangeSpec := { name := "gaugeRoom", fn := fun _ => fun
  | [d] => { results := [.lit (.bool true)], args := [d] }
  | _ => none }
def gaugeRoomRow : OpenClaim := { program := "ytnhdpfbfgojkpaagreatdoor", sum := "ee28dd9f67a7d71066fdd20d52db6629bee1555cd03a7123d641a0dd39f1d304", func := "cableway/cablewaylaw51.GaugeRoom", spec := "gaugeRoom", inPlace := ["slices.overlaps[cableway/api.Alarm]", "internal/abi.NoEscape", "internal/bytealg.MakeNoZero"], unfollowed := true, recurses := true, named := ["cableway/slot.state", "cableway/slot.gen", "cableway/frame.kind", "cableway/frame.client", "cableway/frame.service", "cableway/frame.slot", "cableway/frame.try", "cableway/frame.sure", "cableway/frame.stream", "cableway/frame.gen", "cableway/frame.value", "cableway/frame.call", "cableway/frame.seq", "cableway/gauge.words", "internal/strconv.uint64pow10", "math/bits.deBruijn32tab", "math/bits.deBruijn64tab"], apart := false, laid := [("cableway/frame.kind", laid_cableway_frame_kind), ("cableway/frame.client", laid_cableway_frame_client), ("cableway/frame.service", laid_cableway_frame_service), ("cableway/frame.slot", laid_cableway_frame_slot), ("cableway/frame.try", laid_cableway_frame_try), ("cableway/frame.sure", laid_cableway_frame_sure), ("cableway/frame.stream", laid_cableway_frame_stream), ("cableway/frame.gen", laid_cableway_frame_gen), ("cableway/frame.call", laid_cableway_frame_call), ("cableway/frame.value", laid_cableway_frame_value), ("cableway/frame.seq", laid_cableway_frame_seq), ("cableway/slot.gen", laid_cableway_slot_gen), ("cableway/slot.state", laid_cableway_slot_state), ("math/bits.deBruijn32tab", laid_math_bits_deBruijn32tab), ("math/bits.deBruijn64tab", laid_math_bits_deBruijn64tab), ("internal/strconv.uint64pow10", laid_internal_strconv_uint64pow10), ("cableway/gauge.words", laid_cableway_gauge_words)] }
def GaugeRoomSaid : Prop := gaugeRoomRow.holds Tryz.pinned (OpenSpec.ofChange gaugeRoomSpec)

/-- ITS FALSE NEIGHBOUR: 'it returns false'. Refute it at one input. -/
def gaugeRoomWrong : ChangeSpec := { name := "gaugeRoom", fn := fun _ => fun
  | [d] => { results := [.lit (.bool false)], args := [d] }
  | _ => none }
def GaugeRoomWrongFalsely : Prop := gaugeRoomRow.holds Tryz.pinned (OpenSpec.ofChange gaugeRoomWrong)

/- THE SECOND FORM. 'bulk': how many values and letters a reading holds, each counted each time it is reached (what is shared counts as often as it is met; a slice's spare places count too). A statement '..UptoSaid' is the law's where the arguments, and the package variables that the reading takes, are together of bulk at most 1048576: NARROWER than '..Said'. Prove '..Said' where nothing that the law and all that it calls make is longer than what came in: it says more and counts as full. Else prove '..UptoSaid'. A law counts once. -/
mutual
def uptoBulk {H : Type} : DataW H → Nat
  | .lit (.string bytes) => bytes.length + 1
  | .lit _ => 1
  | .nil => 1
  | .ptr d => uptoBulk d + 1
  | .slice elems spare => uptoBulkAll elems + uptoBulkAll spare + 1
  | .agg parts => uptoBulkAll parts + 1
  | .iface _ d => uptoBulk d + 1
  | .map entries => uptoBulkEntries entries + 1
  | .held _ => 1
def uptoBulkAll {H : Type} : List (DataW H) → Nat
  | [] => 0
  | d :: r => uptoBulk d + uptoBulkAll r
def uptoBulkEntries {H : Type} : List (Lit × DataW H) → Nat
  | [] => 0
  | x :: r => uptoBulkEntry x + uptoBulkEntries r
def uptoBulkEntry {H : Type} : Lit × DataW H → Nat
  | (.string bytes, d) => bytes.length + uptoBulk d + 1
  | (_, d) => uptoBulk d + 1
 end
def uptoSmall : (H : Type) → List (DataW H) → Bool := fun _ ds => decide (uptoBulkAll ds ≤ 1048576)
def OpenSpec.upto (s : _root_.Go.ChangeSpec) : _root_.Go.OpenSpec := { _root_.Go.OpenSpec.ofChange s with cond := some uptoSmall }

/-- 'cablewaylaw32.PostBrings', WHERE WHAT IT READS IS OF BULK AT MOST 1048576: true; the input reads as it did. -/
def postBringsUptoRow : OpenClaim := { program := "ytnhdpfbfgojkpaagreatdoor", sum := "ee28dd9f67a7d71066fdd20d52db6629bee1555cd03a7123d641a0dd39f1d304", func := "cableway/cablewaylaw32.PostBrings", spec := "postBrings", unfollowed := true, recurses := true, named := ["cableway/frame.kind", "cableway/frame.client", "cableway/frame.service", "cableway/frame.slot", "cableway/frame.try", "cableway/frame.sure", "cableway/frame.stream", "cableway/frame.gen", "cableway/frame.value", "cableway/frame.call", "cableway/frame.seq"], apart := false, laid := [("cableway/frame.kind", laid_cableway_frame_kind), ("cableway/frame.client", laid_cableway_frame_client), ("cableway/frame.service", laid_cableway_frame_service), ("cableway/frame.slot", laid_cableway_frame_slot), ("cableway/frame.try", laid_cableway_frame_try), ("cableway/frame.sure", laid_cableway_frame_sure), ("cableway/frame.stream", laid_cableway_frame_stream), ("cableway/frame.gen", laid_cableway_frame_gen), ("cableway/frame.call", laid_cableway_frame_call), ("cableway/frame.value", laid_cableway_frame_value), ("cableway/frame.seq", laid_cableway_frame_seq)], narrowed := true }
def PostBringsUptoSaid : Prop := postBringsUptoRow.holds Tryz.pinned (OpenSpec.upto postBringsSpec)

/-- 'cablewaylaw32.PostTwice', WHERE WHAT IT READS IS OF BULK AT MOST 1048576: true; the input reads as it did. -/
def postTwiceUptoRow : OpenClaim := { program := "ytnhdpfbfgojkpaagreatdoor", sum := "ee28dd9f67a7d71066fdd20d52db6629bee1555cd03a7123d641a0dd39f1d304", func := "cableway/cablewaylaw32.PostTwice", spec := "postTwice", unfollowed := true, recurses := true, named := ["cableway/frame.kind", "cableway/frame.client", "cableway/frame.service", "cableway/frame.slot", "cableway/frame.try", "cableway/frame.sure", "cableway/frame.stream", "cableway/frame.gen", "cableway/frame.value", "cableway/frame.call", "cableway/frame.seq"], apart := false, laid := [("cableway/frame.kind", laid_cableway_frame_kind), ("cableway/frame.client", laid_cableway_frame_client), ("cableway/frame.service", laid_cableway_frame_service), ("cableway/frame.slot", laid_cableway_frame_slot), ("cableway/frame.try", laid_cableway_frame_try), ("cableway/frame.sure", laid_cableway_frame_sure), ("cableway/frame.stream", laid_cableway_frame_stream), ("cableway/frame.gen", laid_cableway_frame_gen), ("cableway/frame.call", laid_cableway_frame_call), ("cableway/frame.value", laid_cableway_frame_value), ("cableway/frame.seq", laid_cableway_frame_seq)], narrowed := true }
def PostTwiceUptoSaid : Prop := postTwiceUptoRow.holds Tryz.pinned (OpenSpec.upto postTwiceSpec)

/-- 'cablewaylaw30.ClientOnce', WHERE WHAT IT READS IS OF BULK AT MOST 1048576: true; the input reads as it did. -/
def clientOnceUptoRow : OpenClaim := { program := "ytnhdpfbfgojkpaagreatdoor", sum := "ee28dd9f67a7d71066fdd20d52db6629bee1555cd03a7123d641a0dd39f1d304", func := "cableway/cablewaylaw30.ClientOnce", spec := "clientOnce", unfollowed := true, recurses := true, named := ["cableway/slot.state", "cableway/slot.gen", "cableway/frame.kind", "cableway/frame.client", "cableway/frame.service", "cableway/frame.slot", "cableway/frame.try", "cableway/frame.sure", "cableway/frame.stream", "cableway/frame.gen", "cableway/frame.value", "cableway/frame.call", "cableway/frame.seq"], apart := false, laid := [("cableway/frame.kind", laid_cableway_frame_kind), ("cableway/frame.client", laid_cableway_frame_client), ("cableway/frame.service", laid_cableway_frame_service), ("cableway/frame.slot", laid_cableway_frame_slot), ("cableway/frame.try", laid_cableway_frame_try), ("cableway/frame.sure", laid_cableway_frame_sure), ("cableway/frame.stream", laid_cableway_frame_stream), ("cableway/frame.gen", laid_cableway_frame_gen), ("cableway/frame.call", laid_cableway_frame_call), ("cableway/frame.value", laid_cableway_frame_value), ("cableway/frame.seq", laid_cableway_frame_seq), ("cableway/slot.gen", laid_cableway_slot_gen), ("cableway/slot.state", laid_cableway_slot_state)], narrowed := true }
def ClientOnceUptoSaid : Prop := clientOnceUptoRow.holds Tryz.pinned (OpenSpec.upto clientOnceSpec)

/-- 'cablewaylaw30.ClientRefuses', WHERE WHAT IT READS IS OF BULK AT MOST 1048576: true; the input reads as it did. -/
def clientRefusesUptoRow : OpenClaim := { program := "ytnhdpfbfgojkpaagreatdoor", sum := "ee28dd9f67a7d71066fdd20d52db6629bee1555cd03a7123d641a0dd39f1d304", func := "cableway/cablewaylaw30.ClientRefuses", spec := "clientRefuses", unfollowed := true, recurses := true, named := ["cableway/slot.state", "cableway/slot.gen", "cableway/frame.kind", "cableway/frame.client", "cableway/frame.service", "cableway/frame.slot", "cableway/frame.try", "cableway/frame.sure", "cableway/frame.stream", "cableway/frame.gen", "cableway/frame.value", "cableway/frame.call", "cableway/frame.seq"], apart := false, laid := [("cableway/frame.kind", laid_cableway_frame_kind), ("cableway/frame.client", laid_cableway_frame_client), ("cableway/frame.service", laid_cableway_frame_service), ("cableway/frame.slot", laid_cableway_frame_slot), ("cableway/frame.try", laid_cableway_frame_try), ("cableway/frame.sure", laid_cableway_frame_sure), ("cableway/frame.stream", laid_cableway_frame_stream), ("cableway/frame.gen", laid_cableway_frame_gen), ("cableway/frame.call", laid_cableway_frame_call), ("cableway/frame.value", laid_cableway_frame_value), ("cableway/frame.seq", laid_cableway_frame_seq), ("cableway/slot.gen", laid_cableway_slot_gen), ("cableway/slot.state", laid_cableway_slot_state)], narrowed := true }
def ClientRefusesUptoSaid : Prop := clientRefusesUptoRow.holds Tryz.pinned (OpenSpec.upto clientRefusesSpec)

/-- 'cablewaylaw30.ClientCalls', WHERE WHAT IT READS IS OF BULK AT MOST 1048576: true; the input reads as it did. -/
def clientCallsUptoRow : OpenClaim := { program := "ytnhdpfbfgojkpaagreatdoor", sum := "ee28dd9f67a7d71066fdd20d52db6629bee1555cd03a7123d641a0dd39f1d304", func := "cableway/cablewaylaw30.ClientCalls", spec := "clientCalls", unfollowed := true, recurses := true, named := ["cableway/slot.state", "cableway/slot.gen", "cableway/frame.kind", "cableway/frame.client", "cableway/frame.service", "cableway/frame.slot", "cableway/frame.try", "cableway/frame.sure", "cableway/frame.stream", "cableway/frame.gen", "cableway/frame.value", "cableway/frame.call", "cableway/frame.seq"], apart := false, laid := [("cableway/frame.kind", laid_cableway_frame_kind), ("cableway/frame.client", laid_cableway_frame_client), ("cableway/frame.service", laid_cableway_frame_service), ("cableway/frame.slot", laid_cableway_frame_slot), ("cableway/frame.try", laid_cableway_frame_try), ("cableway/frame.sure", laid_cableway_frame_sure), ("cableway/frame.stream", laid_cableway_frame_stream), ("cableway/frame.gen", laid_cableway_frame_gen), ("cableway/frame.call", laid_cableway_frame_call), ("cableway/frame.value", laid_cableway_frame_value), ("cableway/frame.seq", laid_cableway_frame_seq), ("cableway/slot.gen", laid_cableway_slot_gen), ("cableway/slot.state", laid_cableway_slot_state)], narrowed := true }
def ClientCallsUptoSaid : Prop := clientCallsUptoRow.holds Tryz.pinned (OpenSpec.upto clientCallsSpec)

/-- 'cablewaylaw33.FabricMay', WHERE WHAT IT READS IS OF BULK AT MOST 1048576: true; the input reads as it did. -/
def fabricMayUptoRow : OpenClaim := { program := "ytnhdpfbfgojkpaagreatdoor", sum := "ee28dd9f67a7d71066fdd20d52db6629bee1555cd03a7123d641a0dd39f1d304", func := "cableway/cablewaylaw33.FabricMay", spec := "fabricMay", unfollowed := true, recurses := true, named := ["cableway/slot.state", "cableway/slot.gen", "cableway/frame.kind", "cableway/frame.client", "cableway/frame.service", "cableway/frame.slot", "cableway/frame.try", "cableway/frame.sure", "cableway/frame.stream", "cableway/frame.gen", "cableway/frame.value", "cableway/frame.call", "cableway/frame.seq"], apart := false, laid := [("cableway/frame.kind", laid_cableway_frame_kind), ("cableway/frame.client", laid_cableway_frame_client), ("cableway/frame.service", laid_cableway_frame_service), ("cableway/frame.slot", laid_cableway_frame_slot), ("cableway/frame.try", laid_cableway_frame_try), ("cableway/frame.sure", laid_cableway_frame_sure), ("cableway/frame.stream", laid_cableway_frame_stream), ("cableway/frame.gen", laid_cableway_frame_gen), ("cableway/frame.call", laid_cableway_frame_call), ("cableway/frame.value", laid_cableway_frame_value), ("cableway/frame.seq", laid_cableway_frame_seq), ("cableway/slot.gen", laid_cableway_slot_gen), ("cableway/slot.state", laid_cableway_slot_state)], narrowed := true }
def FabricMayUptoSaid : Prop := fabricMayUptoRow.holds Tryz.pinned (OpenSpec.upto fabricMaySpec)

/-- 'cablewaylaw33.FabricWires', WHERE WHAT IT READS IS OF BULK AT MOST 1048576: true; the input reads as it did. -/
def fabricWiresUptoRow : OpenClaim := { program := "ytnhdpfbfgojkpaagreatdoor", sum := "ee28dd9f67a7d71066fdd20d52db6629bee1555cd03a7123d641a0dd39f1d304", func := "cableway/cablewaylaw33.FabricWires", spec := "fabricWires", unfollowed := true, recurses := true, named := ["cableway/slot.state", "cableway/slot.gen", "cableway/frame.kind", "cableway/frame.client", "cableway/frame.service", "cableway/frame.slot", "cableway/frame.try", "cableway/frame.sure", "cableway/frame.stream", "cableway/frame.gen", "cableway/frame.value", "cableway/frame.call", "cableway/frame.seq"], apart := false, laid := [("cableway/frame.kind", laid_cableway_frame_kind), ("cableway/frame.client", laid_cableway_frame_client), ("cableway/frame.service", laid_cableway_frame_service), ("cableway/frame.slot", laid_cableway_frame_slot), ("cableway/frame.try", laid_cableway_frame_try), ("cableway/frame.sure", laid_cableway_frame_sure), ("cableway/frame.stream", laid_cableway_frame_stream), ("cableway/frame.gen", laid_cableway_frame_gen), ("cableway/frame.call", laid_cableway_frame_call), ("cableway/frame.value", laid_cableway_frame_value), ("cableway/frame.seq", laid_cableway_frame_seq), ("cableway/slot.gen", laid_cableway_slot_gen), ("cableway/slot.state", laid_cableway_slot_state)], narrowed := true }
def FabricWiresUptoSaid : Prop := fabricWiresUptoRow.holds Tryz.pinned (OpenSpec.upto fabricWiresSpec)

/-- 'cablewaylaw33.FabricCalls', WHERE WHAT IT READS IS OF BULK AT MOST 1048576: true; the input reads as it did. -/
def fabricCallsUptoRow : OpenClaim := { program := "ytnhdpfbfgojkpaagreatdoor", sum := "ee28dd9f67a7d71066fdd20d52db6629bee1555cd03a7123d641a0dd39f1d304", func := "cableway/cablewaylaw33.FabricCalls", spec := "fabricCalls", inPlace := ["slices.overlaps[cableway/api.Alarm]"], unfollowed := true, recurses := true, named := ["cableway/slot.state", "cableway/slot.gen", "cableway/frame.kind", "cableway/frame.client", "cableway/frame.service", "cableway/frame.slot", "cableway/frame.try", "cableway/frame.sure", "cableway/frame.stream", "cableway/frame.gen", "cableway/frame.value", "cableway/frame.call", "cableway/frame.seq"], apart := false, laid := [("cableway/frame.kind", laid_cableway_frame_kind), ("cableway/frame.client", laid_cableway_frame_client), ("cableway/frame.service", laid_cableway_frame_service), ("cableway/frame.slot", laid_cableway_frame_slot), ("cableway/frame.try", laid_cableway_frame_try), ("cableway/frame.sure", laid_cableway_frame_sure), ("cableway/frame.stream", laid_cableway_frame_stream), ("cableway/frame.gen", laid_cableway_frame_gen), ("cableway/frame.call", laid_cableway_frame_call), ("cableway/frame.value", laid_cableway_frame_value), ("cableway/frame.seq", laid_cableway_frame_seq), ("cableway/slot.gen", laid_cableway_slot_gen), ("cableway/slot.state", laid_cableway_slot_state)], narrowed := true }
def FabricCallsUptoSaid : Prop := fabricCallsUptoRow.holds Tryz.pinned (OpenSpec.upto fabricCallsSpec)

/-- 'cablewaylaw33.FabricNone', WHERE WHAT IT READS IS OF BULK AT MOST 1048576: true; the input reads as it did. -/
def fabricNoneUptoRow : OpenClaim := { program := "ytnhdpfbfgojkpaagreatdoor", sum := "ee28dd9f67a7d71066fdd20d52db6629bee1555cd03a7123d641a0dd39f1d304", func := "cableway/cablewaylaw33.FabricNone", spec := "fabricNone", inPlace := ["slices.overlaps[cableway/api.Alarm]"], unfollowed := true, recurses := true, named := ["cableway/slot.state", "cableway/slot.gen", "cableway/frame.kind", "cableway/frame.client", "cableway/frame.service", "cableway/frame.slot", "cableway/frame.try", "cableway/frame.sure", "cableway/frame.stream", "cableway/frame.gen", "cableway/frame.value", "cableway/frame.call", "cableway/frame.seq"], apart := false, laid := [("cableway/frame.kind", laid_cableway_frame_kind), ("cableway/frame.client", laid_cableway_frame_client), ("cableway/frame.service", laid_cableway_frame_service), ("cableway/frame.slot", laid_cableway_frame_slot), ("cableway/frame.try", laid_cableway_frame_try), ("cableway/frame.sure", laid_cableway_frame_sure), ("cableway/frame.stream", laid_cableway_frame_stream), ("cableway/frame.gen", laid_cableway_frame_gen), ("cableway/frame.call", laid_cableway_frame_call), ("cableway/frame.value", laid_cableway_frame_value), ("cableway/frame.seq", laid_cableway_frame_seq), ("cableway/slot.gen", laid_cableway_slot_gen), ("cableway/slot.state", laid_cableway_slot_state)], narrowed := true }
def FabricNoneUptoSaid : Prop := fabricNoneUptoRow.holds Tryz.pinned (OpenSpec.upto fabricNoneSpec)

/-- 'cablewaylaw33.FabricTimeout', WHERE WHAT IT READS IS OF BULK AT MOST 1048576: true; the input reads as it did. -/
def fabricTimeoutUptoRow : OpenClaim := { program := "ytnhdpfbfgojkpaagreatdoor", sum := "ee28dd9f67a7d71066fdd20d52db6629bee1555cd03a7123d641a0dd39f1d304", func := "cableway/cablewaylaw33.FabricTimeout", spec := "fabricTimeout", inPlace := ["slices.overlaps[cableway/api.Alarm]"], unfollowed := true, recurses := true, named := ["cableway/slot.state", "cableway/slot.gen", "cableway/frame.kind", "cableway/frame.client", "cableway/frame.service", "cableway/frame.slot", "cableway/frame.try", "cableway/frame.sure", "cableway/frame.stream", "cableway/frame.gen", "cableway/frame.value", "cableway/frame.call", "cableway/frame.seq"], apart := false, laid := [("cableway/frame.kind", laid_cableway_frame_kind), ("cableway/frame.client", laid_cableway_frame_client), ("cableway/frame.service", laid_cableway_frame_service), ("cableway/frame.slot", laid_cableway_frame_slot), ("cableway/frame.try", laid_cableway_frame_try), ("cableway/frame.sure", laid_cableway_frame_sure), ("cableway/frame.stream", laid_cableway_frame_stream), ("cableway/frame.gen", laid_cableway_frame_gen), ("cableway/frame.call", laid_cableway_frame_call), ("cableway/frame.value", laid_cableway_frame_value), ("cableway/frame.seq", laid_cableway_frame_seq), ("cableway/slot.gen", laid_cableway_slot_gen), ("cableway/slot.state", laid_cableway_slot_state)], narrowed := true }
def FabricTimeoutUptoSaid : Prop := fabricTimeoutUptoRow.holds Tryz.pinned (OpenSpec.upto fabricTimeoutSpec)

/-- 'cablewaylaw35.MachineRounds', WHERE WHAT IT READS IS OF BULK AT MOST 1048576: true; the input reads as it did. -/
def machineRoundsUptoRow : OpenClaim := { program := "ytnhdpfbfgojkpaagreatdoor", sum := "ee28dd9f67a7d71066fdd20d52db6629bee1555cd03a7123d641a0dd39f1d304", func := "cableway/cablewaylaw35.MachineRounds", spec := "machineRounds", inPlace := ["slices.overlaps[cableway/api.Alarm]"], unfollowed := true, recurses := true, named := ["cableway/slot.state", "cableway/slot.gen", "cableway/frame.kind", "cableway/frame.client", "cableway/frame.service", "cableway/frame.slot", "cableway/frame.try", "cableway/frame.sure", "cableway/frame.stream", "cableway/frame.gen", "cableway/frame.value", "cableway/frame.call", "cableway/frame.seq"], apart := false, laid := [("cableway/frame.kind", laid_cableway_frame_kind), ("cableway/frame.client", laid_cableway_frame_client), ("cableway/frame.service", laid_cableway_frame_service), ("cableway/frame.slot", laid_cableway_frame_slot), ("cableway/frame.try", laid_cableway_frame_try), ("cableway/frame.sure", laid_cableway_frame_sure), ("cableway/frame.stream", laid_cableway_frame_stream), ("cableway/frame.gen", laid_cableway_frame_gen), ("cableway/frame.call", laid_cableway_frame_call), ("cableway/frame.value", laid_cableway_frame_value), ("cableway/frame.seq", laid_cableway_frame_seq), ("cableway/slot.gen", laid_cableway_slot_gen), ("cableway/slot.state", laid_cableway_slot_state)], narrowed := true }
def MachineRoundsUptoSaid : Prop := machineRoundsUptoRow.holds Tryz.pinned (OpenSpec.upto machineRoundsSpec)

/-- 'cablewaylaw35.MachineCancels', WHERE WHAT IT READS IS OF BULK AT MOST 1048576: true; the input reads as it did. -/
def machineCancelsUptoRow : OpenClaim := { program := "ytnhdpfbfgojkpaagreatdoor", sum := "ee28dd9f67a7d71066fdd20d52db6629bee1555cd03a7123d641a0dd39f1d304", func := "cableway/cablewaylaw35.MachineCancels", spec := "machineCancels", inPlace := ["slices.overlaps[cableway/api.Alarm]"], unfollowed := true, recurses := true, named := ["cableway/slot.state", "cableway/slot.gen", "cableway/frame.kind", "cableway/frame.client", "cableway/frame.service", "cableway/frame.slot", "cableway/frame.try", "cableway/frame.sure", "cableway/frame.stream", "cableway/frame.gen", "cableway/frame.value", "cableway/frame.call", "cableway/frame.seq"], apart := false, laid := [("cableway/frame.kind", laid_cableway_frame_kind), ("cableway/frame.client", laid_cableway_frame_client), ("cableway/frame.service", laid_cableway_frame_service), ("cableway/frame.slot", laid_cableway_frame_slot), ("cableway/frame.try", laid_cableway_frame_try), ("cableway/frame.sure", laid_cableway_frame_sure), ("cableway/frame.stream", laid_cableway_frame_stream), ("cableway/frame.gen", laid_cableway_frame_gen), ("cableway/frame.call", laid_cableway_frame_call), ("cableway/frame.value", laid_cableway_frame_value), ("cableway/frame.seq", laid_cableway_frame_seq), ("cableway/slot.gen", laid_cableway_slot_gen), ("cableway/slot.state", laid_cableway_slot_state)], narrowed := true }
def MachineCancelsUptoSaid : Prop := machineCancelsUptoRow.holds Tryz.pinned (OpenSpec.upto machineCancelsSpec)

/-- 'cablewaylaw51.GaugeRoom', WHERE WHAT IT READS IS OF BULK AT MOST 1048576: true; the input reads as it did. -/
def gaugeRoomUptoRow : OpenClaim := { program := "ytnhdpfbfgojkpaagreatdoor", sum := "ee28dd9f67a7d71066fdd20d52db6629bee1555cd03a7123d641a0dd39f1d304", func := "cableway/cablewaylaw51.GaugeRoom", spec := "gaugeRoom", inPlace := ["slices.overlaps[cableway/api.Alarm]", "internal/abi.NoEscape", "internal/bytealg.MakeNoZero"], unfollowed := true, recurses := true, named := ["cableway/slot.state", "cableway/slot.gen", "cableway/frame.kind", "cableway/frame.client", "cableway/frame.service", "cableway/frame.slot", "cableway/frame.try", "cableway/frame.sure", "cableway/frame.stream", "cableway/frame.gen", "cableway/frame.value", "cableway/frame.call", "cableway/frame.seq", "cableway/gauge.words", "internal/strconv.uint64pow10", "math/bits.deBruijn32tab", "math/bits.deBruijn64tab"], apart := false, laid := [("cableway/frame.kind", laid_cableway_frame_kind), ("cableway/frame.client", laid_cableway_frame_client), ("cableway/frame.service", laid_cableway_frame_service), ("cableway/frame.slot", laid_cableway_frame_slot), ("cableway/frame.try", laid_cableway_frame_try), ("cableway/frame.sure", laid_cableway_frame_sure), ("cableway/frame.stream", laid_cableway_frame_stream), ("cableway/frame.gen", laid_cableway_frame_gen), ("cableway/frame.call", laid_cableway_frame_call), ("cableway/frame.value", laid_cableway_frame_value), ("cableway/frame.seq", laid_cableway_frame_seq), ("cableway/slot.gen", laid_cableway_slot_gen), ("cableway/slot.state", laid_cableway_slot_state), ("math/bits.deBruijn32tab", laid_math_bits_deBruijn32tab), ("math/bits.deBruijn64tab", laid_math_bits_deBruijn64tab), ("internal/strconv.uint64pow10", laid_internal_strconv_uint64pow10), ("cableway/gauge.words", laid_cableway_gauge_words)], narrowed := true }
def GaugeRoomUptoSaid : Prop := gaugeRoomUptoRow.holds Tryz.pinned (OpenSpec.upto gaugeRoomSpec)

end Rows
end Go.Proofs.YtnhdpfbfgojkpaaGreatDoor
