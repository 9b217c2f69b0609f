/-
  No cell of these rows narrows 'for every input' (looked for: loops, veiled, ifaces, maps, wideKeys, modest, calm, conditions, laid).
  DERIVED. THE GIVEN ROWS OF THIS SEAT. 16 by the template 'for every input the law returns true; each argument reads behind the call as it read before'; 0 by the template 'total and deterministic' (their statements: YtgjhicaiibomeaaTotals.lean).
  GIVEN WITH THE SEED: the statements are not yours to turn. If you find one false, say at which input.
  Laid BY PROGRAM, IN A SANDBOX (cutbox-rows.mjs): the forced cells as the released guide's own fill.sh prints them over the translation aad23d826310d551… (all of the seat's roots in one cut). By AI agents, Wed Nov 11 2026. No macro, syntax, notation, axiom, sorry.
-/
import Derived.Test.YtgjhicaiibomeaaChecked
import GoSem.Claim
import GoSem.ClaimJoined
import GoSem.ClaimMapViews
import Derived.JoinedTies
import Derived.KernelRfl
namespace Go.Proofs.Ytgjhicaiibomeaa
/- THE CELL 'sum', in the pinned program and in every row, IS THE sha256 OF THE DUMP (.gsa) THAT YtgjhicaiibomeaaProg.lean LOADS. Nothing in Lean hashes anything: it is a label: what it is worth is what the hold of that sum in a sandbox is worth. -/
noncomputable def Try.pinned : Pinned := { name := "ytgjhicaiibomeaa", sum := "aad23d826310d5512b6fd443f56b127ba40ad31a5f68bf607a2909c6a54d21d0", checked := Try.checked }
namespace Rows
def none {H : Type} : Left H := { results := [], args := [] }

/-- 'cablewaylaw03.TicksSums': WHATEVER THE INPUT: true; the input reads as it did. -/
def ticksSumsSpec : ChangeSpec := { name := "ticksSums", fn := fun _ => fun
  | [d1, d2, d3] => { results := [.lit (.bool true)], args := [d1, d2, d3] }
  | _ => none }
def ticksSumsRow : OpenClaim := { program := "ytgjhicaiibomeaa", sum := "aad23d826310d5512b6fd443f56b127ba40ad31a5f68bf607a2909c6a54d21d0", func := "cableway/cablewaylaw03.TicksSums", spec := "ticksSums", plainKeys := false, apart := false }
def TicksSumsSaid : Prop := ticksSumsRow.holds Try.pinned (OpenSpec.ofChange ticksSumsSpec)

/-- ITS FALSE NEIGHBOUR: 'it returns false'. Refute it at one input. -/
def ticksSumsWrong : ChangeSpec := { name := "ticksSums", fn := fun _ => fun
  | [d1, d2, d3] => { results := [.lit (.bool false)], args := [d1, d2, d3] }
  | _ => none }
def TicksSumsWrongFalsely : Prop := ticksSumsRow.holds Try.pinned (OpenSpec.ofChange ticksSumsWrong)

/-- 'cablewaylaw03.TicksFollow': WHATEVER THE INPUT: true; the input reads as it did. -/
def ticksFollowSpec : ChangeSpec := { name := "ticksFollow", fn := fun _ => fun
  | [d1, d2, d3] => { results := [.lit (.bool true)], args := [d1, d2, d3] }
  | _ => none }
def ticksFollowRow : OpenClaim := { program := "ytgjhicaiibomeaa", sum := "aad23d826310d5512b6fd443f56b127ba40ad31a5f68bf607a2909c6a54d21d0", func := "cableway/cablewaylaw03.TicksFollow", spec := "ticksFollow", plainKeys := false, apart := false }
def TicksFollowSaid : Prop := ticksFollowRow.holds Try.pinned (OpenSpec.ofChange ticksFollowSpec)

/-- ITS FALSE NEIGHBOUR: 'it returns false'. Refute it at one input. -/
def ticksFollowWrong : ChangeSpec := { name := "ticksFollow", fn := fun _ => fun
  | [d1, d2, d3] => { results := [.lit (.bool false)], args := [d1, d2, d3] }
  | _ => none }
def TicksFollowWrongFalsely : Prop := ticksFollowRow.holds Try.pinned (OpenSpec.ofChange ticksFollowWrong)

/-- 'cablewaylaw22.ChunksNone': WHATEVER THE INPUT: true; the input reads as it did. -/
def chunksNoneSpec : ChangeSpec := { name := "chunksNone", fn := fun _ => fun
  | [d1, d2] => { results := [.lit (.bool true)], args := [d1, d2] }
  | _ => none }
def chunksNoneRow : OpenClaim := { program := "ytgjhicaiibomeaa", sum := "aad23d826310d5512b6fd443f56b127ba40ad31a5f68bf607a2909c6a54d21d0", func := "cableway/cablewaylaw22.ChunksNone", spec := "chunksNone", plainKeys := false, apart := false }
def ChunksNoneSaid : Prop := chunksNoneRow.holds Try.pinned (OpenSpec.ofChange chunksNoneSpec)

/-- ITS FALSE NEIGHBOUR: 'it returns false'. Refute it at one input. -/
def chunksNoneWrong : ChangeSpec := { name := "chunksNone", fn := fun _ => fun
  | [d1, d2] => { results := [.lit (.bool false)], args := [d1, d2] }
  | _ => none }
def ChunksNoneWrongFalsely : Prop := chunksNoneRow.holds Try.pinned (OpenSpec.ofChange chunksNoneWrong)

/-- 'cablewaylaw28.RecordNone': WHATEVER THE INPUT: true; the input reads as it did. -/
def recordNoneSpec : ChangeSpec := { name := "recordNone", fn := fun _ => fun
  | [d1, d2, d3] => { results := [.lit (.bool true)], args := [d1, d2, d3] }
  | _ => none }
def recordNoneRow : OpenClaim := { program := "ytgjhicaiibomeaa", sum := "aad23d826310d5512b6fd443f56b127ba40ad31a5f68bf607a2909c6a54d21d0", func := "cableway/cablewaylaw28.RecordNone", spec := "recordNone", unfollowed := true, recurses := true, plainKeys := false, apart := false }
def RecordNoneSaid : Prop := recordNoneRow.holds Try.pinned (OpenSpec.ofChange recordNoneSpec)

/-- ITS FALSE NEIGHBOUR: 'it returns false'. Refute it at one input. -/
def recordNoneWrong : ChangeSpec := { name := "recordNone", fn := fun _ => fun
  | [d1, d2, d3] => { results := [.lit (.bool false)], args := [d1, d2, d3] }
  | _ => none }
def RecordNoneWrongFalsely : Prop := recordNoneRow.holds Try.pinned (OpenSpec.ofChange recordNoneWrong)

/-- 'cablewaylaw29.PumpFair': WHATEVER THE INPUT: true; the input reads as it did. -/
def pumpFairSpec : ChangeSpec := { name := "pumpFair", fn := fun _ => fun
  | [d1, d2] => { results := [.lit (.bool true)], args := [d1, d2] }
  | _ => none }
def pumpFairRow : OpenClaim := { program := "ytgjhicaiibomeaa", sum := "aad23d826310d5512b6fd443f56b127ba40ad31a5f68bf607a2909c6a54d21d0", func := "cableway/cablewaylaw29.PumpFair", spec := "pumpFair", unfollowed := true, recurses := true, plainKeys := false, apart := false }
def PumpFairSaid : Prop := pumpFairRow.holds Try.pinned (OpenSpec.ofChange pumpFairSpec)

/-- ITS FALSE NEIGHBOUR: 'it returns false'. Refute it at one input. -/
def pumpFairWrong : ChangeSpec := { name := "pumpFair", fn := fun _ => fun
  | [d1, d2] => { results := [.lit (.bool false)], args := [d1, d2] }
  | _ => none }
def PumpFairWrongFalsely : Prop := pumpFairRow.holds Try.pinned (OpenSpec.ofChange pumpFairWrong)

/-- 'cablewaylaw49.TracePuts': WHATEVER THE INPUT: true; the input reads as it did. -/
def tracePutsSpec : ChangeSpec := { name := "tracePuts", fn := fun _ => fun
  | [d1, d2] => { results := [.lit (.bool true)], args := [d1, d2] }
  | _ => none }
def tracePutsRow : OpenClaim := { program := "ytgjhicaiibomeaa", sum := "aad23d826310d5512b6fd443f56b127ba40ad31a5f68bf607a2909c6a54d21d0", func := "cableway/cablewaylaw49.TracePuts", spec := "tracePuts", recurses := true, plainKeys := false, apart := false }
def TracePutsSaid : Prop := tracePutsRow.holds Try.pinned (OpenSpec.ofChange tracePutsSpec)

/-- ITS FALSE NEIGHBOUR: 'it returns false'. Refute it at one input. -/
def tracePutsWrong : ChangeSpec := { name := "tracePuts", fn := fun _ => fun
  | [d1, d2] => { results := [.lit (.bool false)], args := [d1, d2] }
  | _ => none }
def TracePutsWrongFalsely : Prop := tracePutsRow.holds Try.pinned (OpenSpec.ofChange tracePutsWrong)

/-- 'cablewaylaw49.TraceGets': WHATEVER THE INPUT: true; the input reads as it did. -/
def traceGetsSpec : ChangeSpec := { name := "traceGets", fn := fun _ => fun
  | [d1, d2, d3] => { results := [.lit (.bool true)], args := [d1, d2, d3] }
  | _ => none }
def traceGetsRow : OpenClaim := { program := "ytgjhicaiibomeaa", sum := "aad23d826310d5512b6fd443f56b127ba40ad31a5f68bf607a2909c6a54d21d0", func := "cableway/cablewaylaw49.TraceGets", spec := "traceGets", recurses := true, plainKeys := false, apart := false }
def TraceGetsSaid : Prop := traceGetsRow.holds Try.pinned (OpenSpec.ofChange traceGetsSpec)

/-- ITS FALSE NEIGHBOUR: 'it returns false'. Refute it at one input. -/
def traceGetsWrong : ChangeSpec := { name := "traceGets", fn := fun _ => fun
  | [d1, d2, d3] => { results := [.lit (.bool false)], args := [d1, d2, d3] }
  | _ => none }
def TraceGetsWrongFalsely : Prop := traceGetsRow.holds Try.pinned (OpenSpec.ofChange traceGetsWrong)

/-- 'cablewaylaw06.RingInit': WHATEVER THE INPUT: true; the input reads as it did. -/
def ringInitSpec : ChangeSpec := { name := "ringInit", fn := fun _ => fun
  | [d1, d2, d3] => { results := [.lit (.bool true)], args := [d1, d2, d3] }
  | _ => none }
def ringInitRow : OpenClaim := { program := "ytgjhicaiibomeaa", sum := "aad23d826310d5512b6fd443f56b127ba40ad31a5f68bf607a2909c6a54d21d0", func := "cableway/cablewaylaw06.RingInit", spec := "ringInit", plainKeys := false, apart := false }
def RingInitSaid : Prop := ringInitRow.holds Try.pinned (OpenSpec.ofChange ringInitSpec)

/-- ITS FALSE NEIGHBOUR: 'it returns false'. Refute it at one input. -/
def ringInitWrong : ChangeSpec := { name := "ringInit", fn := fun _ => fun
  | [d1, d2, d3] => { results := [.lit (.bool false)], args := [d1, d2, d3] }
  | _ => none }
def RingInitWrongFalsely : Prop := ringInitRow.holds Try.pinned (OpenSpec.ofChange ringInitWrong)

/-- 'cablewaylaw43.StatWhole': WHATEVER THE INPUT: true; the input reads as it did. -/
def statWholeSpec : ChangeSpec := { name := "statWhole", fn := fun _ => fun
  | [d] => { results := [.lit (.bool true)], args := [d] }
  | _ => none }
def statWholeRow : OpenClaim := { program := "ytgjhicaiibomeaa", sum := "aad23d826310d5512b6fd443f56b127ba40ad31a5f68bf607a2909c6a54d21d0", func := "cableway/cablewaylaw43.StatWhole", spec := "statWhole", unfollowed := true, recurses := true, plainKeys := false, apart := false }
def StatWholeSaid : Prop := statWholeRow.holds Try.pinned (OpenSpec.ofChange statWholeSpec)

/-- ITS FALSE NEIGHBOUR: 'it returns false'. Refute it at one input. -/
def statWholeWrong : ChangeSpec := { name := "statWhole", fn := fun _ => fun
  | [d] => { results := [.lit (.bool false)], args := [d] }
  | _ => none }
def StatWholeWrongFalsely : Prop := statWholeRow.holds Try.pinned (OpenSpec.ofChange statWholeWrong)

/-- 'cablewaylaw06.RingMay': WHATEVER THE INPUT: true; the input reads as it did. -/
def ringMaySpec : ChangeSpec := { name := "ringMay", fn := fun _ => fun
  | [d] => { results := [.lit (.bool true)], args := [d] }
  | _ => none }
def ringMayRow : OpenClaim := { program := "ytgjhicaiibomeaa", sum := "aad23d826310d5512b6fd443f56b127ba40ad31a5f68bf607a2909c6a54d21d0", func := "cableway/cablewaylaw06.RingMay", spec := "ringMay", plainKeys := false, apart := false }
def RingMaySaid : Prop := ringMayRow.holds Try.pinned (OpenSpec.ofChange ringMaySpec)

/-- ITS FALSE NEIGHBOUR: 'it returns false'. Refute it at one input. -/
def ringMayWrong : ChangeSpec := { name := "ringMay", fn := fun _ => fun
  | [d] => { results := [.lit (.bool false)], args := [d] }
  | _ => none }
def RingMayWrongFalsely : Prop := ringMayRow.holds Try.pinned (OpenSpec.ofChange ringMayWrong)

/-- 'cablewaylaw06.RingCells': WHATEVER THE INPUT: true; the input reads as it did. -/
def ringCellsSpec : ChangeSpec := { name := "ringCells", fn := fun _ => fun
  | [d1, d2, d3] => { results := [.lit (.bool true)], args := [d1, d2, d3] }
  | _ => none }
def ringCellsRow : OpenClaim := { program := "ytgjhicaiibomeaa", sum := "aad23d826310d5512b6fd443f56b127ba40ad31a5f68bf607a2909c6a54d21d0", func := "cableway/cablewaylaw06.RingCells", spec := "ringCells", plainKeys := false, apart := false }
def RingCellsSaid : Prop := ringCellsRow.holds Try.pinned (OpenSpec.ofChange ringCellsSpec)

/-- ITS FALSE NEIGHBOUR: 'it returns false'. Refute it at one input. -/
def ringCellsWrong : ChangeSpec := { name := "ringCells", fn := fun _ => fun
  | [d1, d2, d3] => { results := [.lit (.bool false)], args := [d1, d2, d3] }
  | _ => none }
def RingCellsWrongFalsely : Prop := ringCellsRow.holds Try.pinned (OpenSpec.ofChange ringCellsWrong)

/-- 'cablewaylaw23.DedupPlays': WHATEVER THE INPUT: true; the input reads as it did. -/
def dedupPlaysSpec : ChangeSpec := { name := "dedupPlays", fn := fun _ => fun
  | [d1, d2] => { results := [.lit (.bool true)], args := [d1, d2] }
  | _ => none }
def dedupPlaysRow : OpenClaim := { program := "ytgjhicaiibomeaa", sum := "aad23d826310d5512b6fd443f56b127ba40ad31a5f68bf607a2909c6a54d21d0", func := "cableway/cablewaylaw23.DedupPlays", spec := "dedupPlays", unfollowed := true, recurses := true, plainKeys := false, apart := false }
def DedupPlaysSaid : Prop := dedupPlaysRow.holds Try.pinned (OpenSpec.ofChange dedupPlaysSpec)

/-- ITS FALSE NEIGHBOUR: 'it returns false'. Refute it at one input. -/
def dedupPlaysWrong : ChangeSpec := { name := "dedupPlays", fn := fun _ => fun
  | [d1, d2] => { results := [.lit (.bool false)], args := [d1, d2] }
  | _ => none }
def DedupPlaysWrongFalsely : Prop := dedupPlaysRow.holds Try.pinned (OpenSpec.ofChange dedupPlaysWrong)

/-- 'cablewaylaw23.DedupNone': WHATEVER THE INPUT: true; the input reads as it did. -/
def dedupNoneSpec : ChangeSpec := { name := "dedupNone", fn := fun _ => fun
  | [d1, d2] => { results := [.lit (.bool true)], args := [d1, d2] }
  | _ => none }
def dedupNoneRow : OpenClaim := { program := "ytgjhicaiibomeaa", sum := "aad23d826310d5512b6fd443f56b127ba40ad31a5f68bf607a2909c6a54d21d0", func := "cableway/cablewaylaw23.DedupNone", spec := "dedupNone", unfollowed := true, recurses := true, plainKeys := false, apart := false }
def DedupNoneSaid : Prop := dedupNoneRow.holds Try.pinned (OpenSpec.ofChange dedupNoneSpec)

/-- ITS FALSE NEIGHBOUR: 'it returns false'. Refute it at one input. -/
def dedupNoneWrong : ChangeSpec := { name := "dedupNone", fn := fun _ => fun
  | [d1, d2] => { results := [.lit (.bool false)], args := [d1, d2] }
  | _ => none }
def DedupNoneWrongFalsely : Prop := dedupNoneRow.holds Try.pinned (OpenSpec.ofChange dedupNoneWrong)

/-- 'cablewaylaw13.WheelPlays': WHATEVER THE INPUT: true; the input reads as it did. -/
def wheelPlaysSpec : ChangeSpec := { name := "wheelPlays", fn := fun _ => fun
  | [d1, d2] => { results := [.lit (.bool true)], args := [d1, d2] }
  | _ => none }
def wheelPlaysRow : OpenClaim := { program := "ytgjhicaiibomeaa", sum := "aad23d826310d5512b6fd443f56b127ba40ad31a5f68bf607a2909c6a54d21d0", func := "cableway/cablewaylaw13.WheelPlays", spec := "wheelPlays", unfollowed := true, recurses := true, plainKeys := false, apart := false }
def WheelPlaysSaid : Prop := wheelPlaysRow.holds Try.pinned (OpenSpec.ofChange wheelPlaysSpec)

/-- ITS FALSE NEIGHBOUR: 'it returns false'. Refute it at one input. -/
def wheelPlaysWrong : ChangeSpec := { name := "wheelPlays", fn := fun _ => fun
  | [d1, d2] => { results := [.lit (.bool false)], args := [d1, d2] }
  | _ => none }
def WheelPlaysWrongFalsely : Prop := wheelPlaysRow.holds Try.pinned (OpenSpec.ofChange wheelPlaysWrong)

/-- 'cablewaylaw13.WheelFar': WHATEVER THE INPUT: true; the input reads as it did. -/
def wheelFarSpec : ChangeSpec := { name := "wheelFar", fn := fun _ => fun
  | [d1, d2, d3] => { results := [.lit (.bool true)], args := [d1, d2, d3] }
  | _ => none }
def wheelFarRow : OpenClaim := { program := "ytgjhicaiibomeaa", sum := "aad23d826310d5512b6fd443f56b127ba40ad31a5f68bf607a2909c6a54d21d0", func := "cableway/cablewaylaw13.WheelFar", spec := "wheelFar", unfollowed := true, recurses := true, plainKeys := false, apart := false }
def WheelFarSaid : Prop := wheelFarRow.holds Try.pinned (OpenSpec.ofChange wheelFarSpec)

/-- ITS FALSE NEIGHBOUR: 'it returns false'. Refute it at one input. -/
def wheelFarWrong : ChangeSpec := { name := "wheelFar", fn := fun _ => fun
  | [d1, d2, d3] => { results := [.lit (.bool false)], args := [d1, d2, d3] }
  | _ => none }
def WheelFarWrongFalsely : Prop := wheelFarRow.holds Try.pinned (OpenSpec.ofChange wheelFarWrong)

/-- 'cablewaylaw13.WheelMost': WHATEVER THE INPUT: true; the input reads as it did. -/
def wheelMostSpec : ChangeSpec := { name := "wheelMost", fn := fun _ => fun
  | [d1, d2] => { results := [.lit (.bool true)], args := [d1, d2] }
  | _ => none }
def wheelMostRow : OpenClaim := { program := "ytgjhicaiibomeaa", sum := "aad23d826310d5512b6fd443f56b127ba40ad31a5f68bf607a2909c6a54d21d0", func := "cableway/cablewaylaw13.WheelMost", spec := "wheelMost", unfollowed := true, recurses := true, plainKeys := false, apart := false }
def WheelMostSaid : Prop := wheelMostRow.holds Try.pinned (OpenSpec.ofChange wheelMostSpec)

/-- ITS FALSE NEIGHBOUR: 'it returns false'. Refute it at one input. -/
def wheelMostWrong : ChangeSpec := { name := "wheelMost", fn := fun _ => fun
  | [d1, d2] => { results := [.lit (.bool false)], args := [d1, d2] }
  | _ => none }
def WheelMostWrongFalsely : Prop := wheelMostRow.holds Try.pinned (OpenSpec.ofChange wheelMostWrong)

/- THE SECOND FORM. 'bulk': how many values and letters a reading holds, each counted each time it is reached (what is shared counts as often as it is met; a slice's spare places count too). A statement '..UptoSaid' is the law's where the arguments, and the package variables that the reading takes, are together of bulk at most 1048576: NARROWER than '..Said'. Prove '..Said' where nothing that the law and all that it calls make is longer than what came in: it says more and counts as full. Else prove '..UptoSaid'. A law counts once. -/
mutual
def uptoBulk {H : Type} : DataW H → Nat
  | .lit (.string bytes) => bytes.length + 1
  | .lit _ => 1
  | .nil => 1
  | .ptr d => uptoBulk d + 1
  | .slice elems spare => uptoBulkAll elems + uptoBulkAll spare + 1
  | .agg parts => uptoBulkAll parts + 1
  | .iface _ d => uptoBulk d + 1
  | .map entries => uptoBulkEntries entries + 1
  | .held _ => 1
def uptoBulkAll {H : Type} : List (DataW H) → Nat
  | [] => 0
  | d :: r => uptoBulk d + uptoBulkAll r
def uptoBulkEntries {H : Type} : List (Lit × DataW H) → Nat
  | [] => 0
  | x :: r => uptoBulkEntry x + uptoBulkEntries r
def uptoBulkEntry {H : Type} : Lit × DataW H → Nat
  | (.string bytes, d) => bytes.length + uptoBulk d + 1
  | (_, d) => uptoBulk d + 1
 end
def uptoSmall : (H : Type) → List (DataW H) → Bool := fun _ ds => decide (uptoBulkAll ds ≤ 1048576)
def OpenSpec.upto (s : _root_.Go.ChangeSpec) : _root_.Go.OpenSpec := { _root_.Go.OpenSpec.ofChange s with cond := some uptoSmall }

/-- 'cablewaylaw03.TicksSums', WHERE WHAT IT READS IS OF BULK AT MOST 1048576: true; the input reads as it did. -/
def ticksSumsUptoRow : OpenClaim := { program := "ytgjhicaiibomeaa", sum := "aad23d826310d5512b6fd443f56b127ba40ad31a5f68bf607a2909c6a54d21d0", func := "cableway/cablewaylaw03.TicksSums", spec := "ticksSums", plainKeys := false, apart := false, narrowed := true }
def TicksSumsUptoSaid : Prop := ticksSumsUptoRow.holds Try.pinned (OpenSpec.upto ticksSumsSpec)

/-- 'cablewaylaw03.TicksFollow', WHERE WHAT IT READS IS OF BULK AT MOST 1048576: true; the input reads as it did. -/
def ticksFollowUptoRow : OpenClaim := { program := "ytgjhicaiibomeaa", sum := "aad23d826310d5512b6fd443f56b127ba40ad31a5f68bf607a2909c6a54d21d0", func := "cableway/cablewaylaw03.TicksFollow", spec := "ticksFollow", plainKeys := false, apart := false, narrowed := true }
def TicksFollowUptoSaid : Prop := ticksFollowUptoRow.holds Try.pinned (OpenSpec.upto ticksFollowSpec)

/-- 'cablewaylaw22.ChunksNone', WHERE WHAT IT READS IS OF BULK AT MOST 1048576: true; the input reads as it did. -/
def chunksNoneUptoRow : OpenClaim := { program := "ytgjhicaiibomeaa", sum := "aad23d826310d5512b6fd443f56b127ba40ad31a5f68bf607a2909c6a54d21d0", func := "cableway/cablewaylaw22.ChunksNone", spec := "chunksNone", plainKeys := false, apart := false, narrowed := true }
def ChunksNoneUptoSaid : Prop := chunksNoneUptoRow.holds Try.pinned (OpenSpec.upto chunksNoneSpec)

/-- 'cablewaylaw28.RecordNone', WHERE WHAT IT READS IS OF BULK AT MOST 1048576: true; the input reads as it did. -/
def recordNoneUptoRow : OpenClaim := { program := "ytgjhicaiibomeaa", sum := "aad23d826310d5512b6fd443f56b127ba40ad31a5f68bf607a2909c6a54d21d0", func := "cableway/cablewaylaw28.RecordNone", spec := "recordNone", unfollowed := true, recurses := true, plainKeys := false, apart := false, narrowed := true }
def RecordNoneUptoSaid : Prop := recordNoneUptoRow.holds Try.pinned (OpenSpec.upto recordNoneSpec)

/-- 'cablewaylaw29.PumpFair', WHERE WHAT IT READS IS OF BULK AT MOST 1048576: true; the input reads as it did. -/
def pumpFairUptoRow : OpenClaim := { program := "ytgjhicaiibomeaa", sum := "aad23d826310d5512b6fd443f56b127ba40ad31a5f68bf607a2909c6a54d21d0", func := "cableway/cablewaylaw29.PumpFair", spec := "pumpFair", unfollowed := true, recurses := true, plainKeys := false, apart := false, narrowed := true }
def PumpFairUptoSaid : Prop := pumpFairUptoRow.holds Try.pinned (OpenSpec.upto pumpFairSpec)

/-- 'cablewaylaw49.TracePuts', WHERE WHAT IT READS IS OF BULK AT MOST 1048576: true; the input reads as it did. -/
def tracePutsUptoRow : OpenClaim := { program := "ytgjhicaiibomeaa", sum := "aad23d826310d5512b6fd443f56b127ba40ad31a5f68bf607a2909c6a54d21d0", func := "cableway/cablewaylaw49.TracePuts", spec := "tracePuts", recurses := true, plainKeys := false, apart := false, narrowed := true }
def TracePutsUptoSaid : Prop := tracePutsUptoRow.holds Try.pinned (OpenSpec.upto tracePutsSpec)

/-- 'cablewaylaw49.TraceGets', WHERE WHAT IT READS IS OF BULK AT MOST 1048576: true; the input reads as it did. -/
def traceGetsUptoRow : OpenClaim := { program := "ytgjhicaiibomeaa", sum := "aad23d826310d5512b6fd443f56b127ba40ad31a5f68bf607a2909c6a54d21d0", func := "cableway/cablewaylaw49.TraceGets", spec := "traceGets", recurses := true, plainKeys := false, apart := false, narrowed := true }
def TraceGetsUptoSaid : Prop := traceGetsUptoRow.holds Try.pinned (OpenSpec.upto traceGetsSpec)

/-- 'cablewaylaw06.RingInit', WHERE WHAT IT READS IS OF BULK AT MOST 1048576: true; the input reads as it did. -/
def ringInitUptoRow : OpenClaim := { program := "ytgjhicaiibomeaa", sum := "aad23d826310d5512b6fd443f56b127ba40ad31a5f68bf607a2909c6a54d21d0", func := "cableway/cablewaylaw06.RingInit", spec := "ringInit", plainKeys := false, apart := false, narrowed := true }
def RingInitUptoSaid : Prop := ringInitUptoRow.holds Try.pinned (OpenSpec.upto ringInitSpec)

/-- 'cablewaylaw43.StatWhole', WHERE WHAT IT READS IS OF BULK AT MOST 1048576: true; the input reads as it did. -/
def statWholeUptoRow : OpenClaim := { program := "ytgjhicaiibomeaa", sum := "aad23d826310d5512b6fd443f56b127ba40ad31a5f68bf607a2909c6a54d21d0", func := "cableway/cablewaylaw43.StatWhole", spec := "statWhole", unfollowed := true, recurses := true, plainKeys := false, apart := false, narrowed := true }
def StatWholeUptoSaid : Prop := statWholeUptoRow.holds Try.pinned (OpenSpec.upto statWholeSpec)

/-- 'cablewaylaw06.RingMay', WHERE WHAT IT READS IS OF BULK AT MOST 1048576: true; the input reads as it did. -/
def ringMayUptoRow : OpenClaim := { program := "ytgjhicaiibomeaa", sum := "aad23d826310d5512b6fd443f56b127ba40ad31a5f68bf607a2909c6a54d21d0", func := "cableway/cablewaylaw06.RingMay", spec := "ringMay", plainKeys := false, apart := false, narrowed := true }
def RingMayUptoSaid : Prop := ringMayUptoRow.holds Try.pinned (OpenSpec.upto ringMaySpec)

/-- 'cablewaylaw06.RingCells', WHERE WHAT IT READS IS OF BULK AT MOST 1048576: true; the input reads as it did. -/
def ringCellsUptoRow : OpenClaim := { program := "ytgjhicaiibomeaa", sum := "aad23d826310d5512b6fd443f56b127ba40ad31a5f68bf607a2909c6a54d21d0", func := "cableway/cablewaylaw06.RingCells", spec := "ringCells", plainKeys := false, apart := false, narrowed := true }
def RingCellsUptoSaid : Prop := ringCellsUptoRow.holds Try.pinned (OpenSpec.upto ringCellsSpec)

/-- 'cablewaylaw23.DedupPlays', WHERE WHAT IT READS IS OF BULK AT MOST 1048576: true; the input reads as it did. -/
def dedupPlaysUptoRow : OpenClaim := { program := "ytgjhicaiibomeaa", sum := "aad23d826310d5512b6fd443f56b127ba40ad31a5f68bf607a2909c6a54d21d0", func := "cableway/cablewaylaw23.DedupPlays", spec := "dedupPlays", unfollowed := true, recurses := true, plainKeys := false, apart := false, narrowed := true }
def DedupPlaysUptoSaid : Prop := dedupPlaysUptoRow.holds Try.pinned (OpenSpec.upto dedupPlaysSpec)

/-- 'cablewaylaw23.DedupNone', WHERE WHAT IT READS IS OF BULK AT MOST 1048576: true; the input reads as it did. -/
def dedupNoneUptoRow : OpenClaim := { program := "ytgjhicaiibomeaa", sum := "aad23d826310d5512b6fd443f56b127ba40ad31a5f68bf607a2909c6a54d21d0", func := "cableway/cablewaylaw23.DedupNone", spec := "dedupNone", unfollowed := true, recurses := true, plainKeys := false, apart := false, narrowed := true }
def DedupNoneUptoSaid : Prop := dedupNoneUptoRow.holds Try.pinned (OpenSpec.upto dedupNoneSpec)

/-- 'cablewaylaw13.WheelPlays', WHERE WHAT IT READS IS OF BULK AT MOST 1048576: true; the input reads as it did. -/
def wheelPlaysUptoRow : OpenClaim := { program := "ytgjhicaiibomeaa", sum := "aad23d826310d5512b6fd443f56b127ba40ad31a5f68bf607a2909c6a54d21d0", func := "cableway/cablewaylaw13.WheelPlays", spec := "wheelPlays", unfollowed := true, recurses := true, plainKeys := false, apart := false, narrowed := true }
def WheelPlaysUptoSaid : Prop := wheelPlaysUptoRow.holds Try.pinned (OpenSpec.upto wheelPlaysSpec)

/-- 'cablewaylaw13.WheelFar', WHERE WHAT IT READS IS OF BULK AT MOST 1048576: true; the input reads as it did. -/
def wheelFarUptoRow : OpenClaim := { program := "ytgjhicaiibomeaa", sum := "aad23d826310d5512b6fd443f56b127ba40ad31a5f68bf607a2909c6a54d21d0", func := "cableway/cablewaylaw13.WheelFar", spec := "wheelFar", unfollowed := true, recurses := true, plainKeys := false, apart := false, narrowed := true }
def WheelFarUptoSaid : Prop := wheelFarUptoRow.holds Try.pinned (OpenSpec.upto wheelFarSpec)

/-- 'cablewaylaw13.WheelMost', WHERE WHAT IT READS IS OF BULK AT MOST 1048576: true; the input reads as it did. -/
def wheelMostUptoRow : OpenClaim := { program := "ytgjhicaiibomeaa", sum := "aad23d826310d5512b6fd443f56b127ba40ad31a5f68bf607a2909c6a54d21d0", func := "cableway/cablewaylaw13.WheelMost", spec := "wheelMost", unfollowed := true, recurses := true, plainKeys := false, apart := false, narrowed := true }
def WheelMostUptoSaid : Prop := wheelMostUptoRow.holds Try.pinned (OpenSpec.upto wheelMostSpec)

end Rows
end Go.Proofs.Ytgjhicaiibomeaa
