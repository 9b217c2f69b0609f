/-
  No cell of these rows narrows 'for every input' (looked for: loops, veiled, ifaces, maps, wideKeys, modest, calm, conditions, laid).
  DERIVED. THE GIVEN ROWS OF THIS SEAT. 12 by the template 'for every input the law returns true; each argument reads behind the call as it read before'; 0 by the template 'total and deterministic' (their statements: YtonhcimkodgijaaTotals.lean).
  GIVEN WITH THE SEED: the statements are not yours to turn. If you find one false, say at which input.
  Laid BY PROGRAM, IN A SANDBOX (cutbox-rows.mjs): the forced cells as the released guide's own fill.sh prints them over the translation 034b241ebde242b3… (all of the seat's roots in one cut). By AI agents, Wed Nov 11 2026. No macro, syntax, notation, axiom, sorry.
-/
import Derived.Test.YtonhcimkodgijaaChecked
import GoSem.Claim
import GoSem.ClaimJoined
import GoSem.ClaimMapViews
import Derived.JoinedTies
import Derived.KernelRfl
namespace Go.Proofs.Ytonhcimkodgijaa
/- THE CELL 'sum', in the pinned program and in every row, IS THE sha256 OF THE DUMP (.gsa) THAT YtonhcimkodgijaaProg.lean LOADS. Nothing in Lean hashes anything: it is a label: what it is worth is what the hold of that sum in a sandbox is worth. -/
noncomputable def Try.pinned : Pinned := { name := "ytonhcimkodgijaa", sum := "034b241ebde242b3d70a3a8c781832e168bc250f297fa3e79da3c43d60dd1ef3", checked := Try.checked }
namespace Rows
def none {H : Type} : Left H := { results := [], args := [] }

/-- 'cablewaylaw49.TracePuts': WHATEVER THE INPUT: true; the input reads as it did. -/
def tracePutsSpec : ChangeSpec := { name := "tracePuts", fn := fun _ => fun
  | [d1, d2] => { results := [.lit (.bool true)], args := [d1, d2] }
  | _ => none }
def tracePutsRow : OpenClaim := { program := "ytonhcimkodgijaa", sum := "034b241ebde242b3d70a3a8c781832e168bc250f297fa3e79da3c43d60dd1ef3", func := "cableway/cablewaylaw49.TracePuts", spec := "tracePuts", recurses := true, plainKeys := false, apart := false }
def TracePutsSaid : Prop := tracePutsRow.holds Try.pinned (OpenSpec.ofChange tracePutsSpec)

/-- ITS FALSE NEIGHBOUR: 'it returns false'. Refute it at one input. -/
def tracePutsWrong : ChangeSpec := { name := "tracePuts", fn := fun _ => fun
  | [d1, d2] => { results := [.lit (.bool false)], args := [d1, d2] }
  | _ => none }
def TracePutsWrongFalsely : Prop := tracePutsRow.holds Try.pinned (OpenSpec.ofChange tracePutsWrong)

/-- 'cablewaylaw49.TraceGets': WHATEVER THE INPUT: true; the input reads as it did. -/
def traceGetsSpec : ChangeSpec := { name := "traceGets", fn := fun _ => fun
  | [d1, d2, d3] => { results := [.lit (.bool true)], args := [d1, d2, d3] }
  | _ => none }
def traceGetsRow : OpenClaim := { program := "ytonhcimkodgijaa", sum := "034b241ebde242b3d70a3a8c781832e168bc250f297fa3e79da3c43d60dd1ef3", func := "cableway/cablewaylaw49.TraceGets", spec := "traceGets", recurses := true, plainKeys := false, apart := false }
def TraceGetsSaid : Prop := traceGetsRow.holds Try.pinned (OpenSpec.ofChange traceGetsSpec)

/-- ITS FALSE NEIGHBOUR: 'it returns false'. Refute it at one input. -/
def traceGetsWrong : ChangeSpec := { name := "traceGets", fn := fun _ => fun
  | [d1, d2, d3] => { results := [.lit (.bool false)], args := [d1, d2, d3] }
  | _ => none }
def TraceGetsWrongFalsely : Prop := traceGetsRow.holds Try.pinned (OpenSpec.ofChange traceGetsWrong)

/-- 'cablewaylaw43.StatWhole': WHATEVER THE INPUT: true; the input reads as it did. -/
def statWholeSpec : ChangeSpec := { name := "statWhole", fn := fun _ => fun
  | [d] => { results := [.lit (.bool true)], args := [d] }
  | _ => none }
def statWholeRow : OpenClaim := { program := "ytonhcimkodgijaa", sum := "034b241ebde242b3d70a3a8c781832e168bc250f297fa3e79da3c43d60dd1ef3", func := "cableway/cablewaylaw43.StatWhole", spec := "statWhole", unfollowed := true, recurses := true, plainKeys := false, apart := false }
def StatWholeSaid : Prop := statWholeRow.holds Try.pinned (OpenSpec.ofChange statWholeSpec)

/-- ITS FALSE NEIGHBOUR: 'it returns false'. Refute it at one input. -/
def statWholeWrong : ChangeSpec := { name := "statWhole", fn := fun _ => fun
  | [d] => { results := [.lit (.bool false)], args := [d] }
  | _ => none }
def StatWholeWrongFalsely : Prop := statWholeRow.holds Try.pinned (OpenSpec.ofChange statWholeWrong)

/-- 'cablewaylaw23.DedupPlays': WHATEVER THE INPUT: true; the input reads as it did. -/
def dedupPlaysSpec : ChangeSpec := { name := "dedupPlays", fn := fun _ => fun
  | [d1, d2] => { results := [.lit (.bool true)], args := [d1, d2] }
  | _ => none }
def dedupPlaysRow : OpenClaim := { program := "ytonhcimkodgijaa", sum := "034b241ebde242b3d70a3a8c781832e168bc250f297fa3e79da3c43d60dd1ef3", func := "cableway/cablewaylaw23.DedupPlays", spec := "dedupPlays", unfollowed := true, recurses := true, plainKeys := false, apart := false }
def DedupPlaysSaid : Prop := dedupPlaysRow.holds Try.pinned (OpenSpec.ofChange dedupPlaysSpec)

/-- ITS FALSE NEIGHBOUR: 'it returns false'. Refute it at one input. -/
def dedupPlaysWrong : ChangeSpec := { name := "dedupPlays", fn := fun _ => fun
  | [d1, d2] => { results := [.lit (.bool false)], args := [d1, d2] }
  | _ => none }
def DedupPlaysWrongFalsely : Prop := dedupPlaysRow.holds Try.pinned (OpenSpec.ofChange dedupPlaysWrong)

/-- 'cablewaylaw13.WheelPlays': WHATEVER THE INPUT: true; the input reads as it did. -/
def wheelPlaysSpec : ChangeSpec := { name := "wheelPlays", fn := fun _ => fun
  | [d1, d2] => { results := [.lit (.bool true)], args := [d1, d2] }
  | _ => none }
def wheelPlaysRow : OpenClaim := { program := "ytonhcimkodgijaa", sum := "034b241ebde242b3d70a3a8c781832e168bc250f297fa3e79da3c43d60dd1ef3", func := "cableway/cablewaylaw13.WheelPlays", spec := "wheelPlays", unfollowed := true, recurses := true, plainKeys := false, apart := false }
def WheelPlaysSaid : Prop := wheelPlaysRow.holds Try.pinned (OpenSpec.ofChange wheelPlaysSpec)

/-- ITS FALSE NEIGHBOUR: 'it returns false'. Refute it at one input. -/
def wheelPlaysWrong : ChangeSpec := { name := "wheelPlays", fn := fun _ => fun
  | [d1, d2] => { results := [.lit (.bool false)], args := [d1, d2] }
  | _ => none }
def WheelPlaysWrongFalsely : Prop := wheelPlaysRow.holds Try.pinned (OpenSpec.ofChange wheelPlaysWrong)

/-- 'cablewaylaw13.WheelFar': WHATEVER THE INPUT: true; the input reads as it did. -/
def wheelFarSpec : ChangeSpec := { name := "wheelFar", fn := fun _ => fun
  | [d1, d2, d3] => { results := [.lit (.bool true)], args := [d1, d2, d3] }
  | _ => none }
def wheelFarRow : OpenClaim := { program := "ytonhcimkodgijaa", sum := "034b241ebde242b3d70a3a8c781832e168bc250f297fa3e79da3c43d60dd1ef3", func := "cableway/cablewaylaw13.WheelFar", spec := "wheelFar", unfollowed := true, recurses := true, plainKeys := false, apart := false }
def WheelFarSaid : Prop := wheelFarRow.holds Try.pinned (OpenSpec.ofChange wheelFarSpec)

/-- ITS FALSE NEIGHBOUR: 'it returns false'. Refute it at one input. -/
def wheelFarWrong : ChangeSpec := { name := "wheelFar", fn := fun _ => fun
  | [d1, d2, d3] => { results := [.lit (.bool false)], args := [d1, d2, d3] }
  | _ => none }
def WheelFarWrongFalsely : Prop := wheelFarRow.holds Try.pinned (OpenSpec.ofChange wheelFarWrong)

/-- 'cablewaylaw13.WheelMost': WHATEVER THE INPUT: true; the input reads as it did. -/
def wheelMostSpec : ChangeSpec := { name := "wheelMost", fn := fun _ => fun
  | [d1, d2] => { results := [.lit (.bool true)], args := [d1, d2] }
  | _ => none }
def wheelMostRow : OpenClaim := { program := "ytonhcimkodgijaa", sum := "034b241ebde242b3d70a3a8c781832e168bc250f297fa3e79da3c43d60dd1ef3", func := "cableway/cablewaylaw13.WheelMost", spec := "wheelMost", unfollowed := true, recurses := true, plainKeys := false, apart := false }
def WheelMostSaid : Prop := wheelMostRow.holds Try.pinned (OpenSpec.ofChange wheelMostSpec)

/-- ITS FALSE NEIGHBOUR: 'it returns false'. Refute it at one input. -/
def wheelMostWrong : ChangeSpec := { name := "wheelMost", fn := fun _ => fun
  | [d1, d2] => { results := [.lit (.bool false)], args := [d1, d2] }
  | _ => none }
def WheelMostWrongFalsely : Prop := wheelMostRow.holds Try.pinned (OpenSpec.ofChange wheelMostWrong)

/-- 'cablewaylaw08.FetchMany': WHATEVER THE INPUT: true; the input reads as it did. -/
def fetchManySpec : ChangeSpec := { name := "fetchMany", fn := fun _ => fun
  | [d1, d2] => { results := [.lit (.bool true)], args := [d1, d2] }
  | _ => none }
def fetchManyRow : OpenClaim := { program := "ytonhcimkodgijaa", sum := "034b241ebde242b3d70a3a8c781832e168bc250f297fa3e79da3c43d60dd1ef3", func := "cableway/cablewaylaw08.FetchMany", spec := "fetchMany", plainKeys := false, apart := false }
def FetchManySaid : Prop := fetchManyRow.holds Try.pinned (OpenSpec.ofChange fetchManySpec)

/-- ITS FALSE NEIGHBOUR: 'it returns false'. Refute it at one input. -/
def fetchManyWrong : ChangeSpec := { name := "fetchMany", fn := fun _ => fun
  | [d1, d2] => { results := [.lit (.bool false)], args := [d1, d2] }
  | _ => none }
def FetchManyWrongFalsely : Prop := fetchManyRow.holds Try.pinned (OpenSpec.ofChange fetchManyWrong)

/-- 'cablewaylaw08.FetchOrder': WHATEVER THE INPUT: true; the input reads as it did. -/
def fetchOrderSpec : ChangeSpec := { name := "fetchOrder", fn := fun _ => fun
  | [d1, d2, d3] => { results := [.lit (.bool true)], args := [d1, d2, d3] }
  | _ => none }
def fetchOrderRow : OpenClaim := { program := "ytonhcimkodgijaa", sum := "034b241ebde242b3d70a3a8c781832e168bc250f297fa3e79da3c43d60dd1ef3", func := "cableway/cablewaylaw08.FetchOrder", spec := "fetchOrder", plainKeys := false, apart := false }
def FetchOrderSaid : Prop := fetchOrderRow.holds Try.pinned (OpenSpec.ofChange fetchOrderSpec)

/-- ITS FALSE NEIGHBOUR: 'it returns false'. Refute it at one input. -/
def fetchOrderWrong : ChangeSpec := { name := "fetchOrder", fn := fun _ => fun
  | [d1, d2, d3] => { results := [.lit (.bool false)], args := [d1, d2, d3] }
  | _ => none }
def FetchOrderWrongFalsely : Prop := fetchOrderRow.holds Try.pinned (OpenSpec.ofChange fetchOrderWrong)

/-- 'cablewaylaw46.SweepRight': WHATEVER THE INPUT: true; the input reads as it did. -/
def sweepRightSpec : ChangeSpec := { name := "sweepRight", fn := fun _ => fun
  | [d1, d2] => { results := [.lit (.bool true)], args := [d1, d2] }
  | _ => none }
def sweepRightRow : OpenClaim := { program := "ytonhcimkodgijaa", sum := "034b241ebde242b3d70a3a8c781832e168bc250f297fa3e79da3c43d60dd1ef3", func := "cableway/cablewaylaw46.SweepRight", spec := "sweepRight", recurses := true, plainKeys := false, apart := false }
def SweepRightSaid : Prop := sweepRightRow.holds Try.pinned (OpenSpec.ofChange sweepRightSpec)

/-- ITS FALSE NEIGHBOUR: 'it returns false'. Refute it at one input. -/
def sweepRightWrong : ChangeSpec := { name := "sweepRight", fn := fun _ => fun
  | [d1, d2] => { results := [.lit (.bool false)], args := [d1, d2] }
  | _ => none }
def SweepRightWrongFalsely : Prop := sweepRightRow.holds Try.pinned (OpenSpec.ofChange sweepRightWrong)

/-- 'cablewaylaw46.SweepCuts': WHATEVER THE INPUT: true; the input reads as it did. -/
def sweepCutsSpec : ChangeSpec := { name := "sweepCuts", fn := fun _ => fun
  | [d] => { results := [.lit (.bool true)], args := [d] }
  | _ => none }
def sweepCutsRow : OpenClaim := { program := "ytonhcimkodgijaa", sum := "034b241ebde242b3d70a3a8c781832e168bc250f297fa3e79da3c43d60dd1ef3", func := "cableway/cablewaylaw46.SweepCuts", spec := "sweepCuts", recurses := true, plainKeys := false, apart := false }
def SweepCutsSaid : Prop := sweepCutsRow.holds Try.pinned (OpenSpec.ofChange sweepCutsSpec)

/-- ITS FALSE NEIGHBOUR: 'it returns false'. Refute it at one input. -/
def sweepCutsWrong : ChangeSpec := { name := "sweepCuts", fn := fun _ => fun
  | [d] => { results := [.lit (.bool false)], args := [d] }
  | _ => none }
def SweepCutsWrongFalsely : Prop := sweepCutsRow.holds Try.pinned (OpenSpec.ofChange sweepCutsWrong)

/-- 'cablewaylaw27.ServerOnce': WHATEVER THE INPUT: true; the input reads as it did. -/
def serverOnceSpec : ChangeSpec := { name := "serverOnce", fn := fun _ => fun
  | [d] => { results := [.lit (.bool true)], args := [d] }
  | _ => none }
def serverOnceRow : OpenClaim := { program := "ytonhcimkodgijaa", sum := "034b241ebde242b3d70a3a8c781832e168bc250f297fa3e79da3c43d60dd1ef3", func := "cableway/cablewaylaw27.ServerOnce", spec := "serverOnce", unfollowed := true, recurses := true, plainKeys := false, apart := false }
def ServerOnceSaid : Prop := serverOnceRow.holds Try.pinned (OpenSpec.ofChange serverOnceSpec)

/-- ITS FALSE NEIGHBOUR: 'it returns false'. Refute it at one input. -/
def serverOnceWrong : ChangeSpec := { name := "serverOnce", fn := fun _ => fun
  | [d] => { results := [.lit (.bool false)], args := [d] }
  | _ => none }
def ServerOnceWrongFalsely : Prop := serverOnceRow.holds Try.pinned (OpenSpec.ofChange serverOnceWrong)

/- THE SECOND FORM. 'bulk': how many values and letters a reading holds, each counted each time it is reached (what is shared counts as often as it is met; a slice's spare places count too). A statement '..UptoSaid' is the law's where the arguments, and the package variables that the reading takes, are together of bulk at most 1048576: NARROWER than '..Said'. Prove '..Said' where nothing that the law and all that it calls make is longer than what came in: it says more and counts as full. Else prove '..UptoSaid'. A law counts once. -/
mutual
def uptoBulk {H : Type} : DataW H → Nat
  | .lit (.string bytes) => bytes.length + 1
  | .lit _ => 1
  | .nil => 1
  | .ptr d => uptoBulk d + 1
  | .slice elems spare => uptoBulkAll elems + uptoBulkAll spare + 1
  | .agg parts => uptoBulkAll parts + 1
  | .iface _ d => uptoBulk d + 1
  | .map entries => uptoBulkEntries entries + 1
  | .held _ => 1
def uptoBulkAll {H : Type} : List (DataW H) → Nat
  | [] => 0
  | d :: r => uptoBulk d + uptoBulkAll r
def uptoBulkEntries {H : Type} : List (Lit × DataW H) → Nat
  | [] => 0
  | x :: r => uptoBulkEntry x + uptoBulkEntries r
def uptoBulkEntry {H : Type} : Lit × DataW H → Nat
  | (.string bytes, d) => bytes.length + uptoBulk d + 1
  | (_, d) => uptoBulk d + 1
 end
def uptoSmall : (H : Type) → List (DataW H) → Bool := fun _ ds => decide (uptoBulkAll ds ≤ 1048576)
def OpenSpec.upto (s : _root_.Go.ChangeSpec) : _root_.Go.OpenSpec := { _root_.Go.OpenSpec.ofChange s with cond := some uptoSmall }

/-- 'cablewaylaw49.TracePuts', WHERE WHAT IT READS IS OF BULK AT MOST 1048576: true; the input reads as it did. -/
def tracePutsUptoRow : OpenClaim := { program := "ytonhcimkodgijaa", sum := "034b241ebde242b3d70a3a8c781832e168bc250f297fa3e79da3c43d60dd1ef3", func := "cableway/cablewaylaw49.TracePuts", spec := "tracePuts", recurses := true, plainKeys := false, apart := false, narrowed := true }
def TracePutsUptoSaid : Prop := tracePutsUptoRow.holds Try.pinned (OpenSpec.upto tracePutsSpec)

/-- 'cablewaylaw49.TraceGets', WHERE WHAT IT READS IS OF BULK AT MOST 1048576: true; the input reads as it did. -/
def traceGetsUptoRow : OpenClaim := { program := "ytonhcimkodgijaa", sum := "034b241ebde242b3d70a3a8c781832e168bc250f297fa3e79da3c43d60dd1ef3", func := "cableway/cablewaylaw49.TraceGets", spec := "traceGets", recurses := true, plainKeys := false, apart := false, narrowed := true }
def TraceGetsUptoSaid : Prop := traceGetsUptoRow.holds Try.pinned (OpenSpec.upto traceGetsSpec)

/-- 'cablewaylaw43.StatWhole', WHERE WHAT IT READS IS OF BULK AT MOST 1048576: true; the input reads as it did. -/
def statWholeUptoRow : OpenClaim := { program := "ytonhcimkodgijaa", sum := "034b241ebde242b3d70a3a8c781832e168bc250f297fa3e79da3c43d60dd1ef3", func := "cableway/cablewaylaw43.StatWhole", spec := "statWhole", unfollowed := true, recurses := true, plainKeys := false, apart := false, narrowed := true }
def StatWholeUptoSaid : Prop := statWholeUptoRow.holds Try.pinned (OpenSpec.upto statWholeSpec)

/-- 'cablewaylaw23.DedupPlays', WHERE WHAT IT READS IS OF BULK AT MOST 1048576: true; the input reads as it did. -/
def dedupPlaysUptoRow : OpenClaim := { program := "ytonhcimkodgijaa", sum := "034b241ebde242b3d70a3a8c781832e168bc250f297fa3e79da3c43d60dd1ef3", func := "cableway/cablewaylaw23.DedupPlays", spec := "dedupPlays", unfollowed := true, recurses := true, plainKeys := false, apart := false, narrowed := true }
def DedupPlaysUptoSaid : Prop := dedupPlaysUptoRow.holds Try.pinned (OpenSpec.upto dedupPlaysSpec)

/-- 'cablewaylaw13.WheelPlays', WHERE WHAT IT READS IS OF BULK AT MOST 1048576: true; the input reads as it did. -/
def wheelPlaysUptoRow : OpenClaim := { program := "ytonhcimkodgijaa", sum := "034b241ebde242b3d70a3a8c781832e168bc250f297fa3e79da3c43d60dd1ef3", func := "cableway/cablewaylaw13.WheelPlays", spec := "wheelPlays", unfollowed := true, recurses := true, plainKeys := false, apart := false, narrowed := true }
def WheelPlaysUptoSaid : Prop := wheelPlaysUptoRow.holds Try.pinned (OpenSpec.upto wheelPlaysSpec)

/-- 'cablewaylaw13.WheelFar', WHERE WHAT IT READS IS OF BULK AT MOST 1048576: true; the input reads as it did. -/
def wheelFarUptoRow : OpenClaim := { program := "ytonhcimkodgijaa", sum := "034b241ebde242b3d70a3a8c781832e168bc250f297fa3e79da3c43d60dd1ef3", func := "cableway/cablewaylaw13.WheelFar", spec := "wheelFar", unfollowed := true, recurses := true, plainKeys := false, apart := false, narrowed := true }
def WheelFarUptoSaid : Prop := wheelFarUptoRow.holds Try.pinned (OpenSpec.upto wheelFarSpec)

/-- 'cablewaylaw13.WheelMost', WHERE WHAT IT READS IS OF BULK AT MOST 1048576: true; the input reads as it did. -/
def wheelMostUptoRow : OpenClaim := { program := "ytonhcimkodgijaa", sum := "034b241ebde242b3d70a3a8c781832e168bc250f297fa3e79da3c43d60dd1ef3", func := "cableway/cablewaylaw13.WheelMost", spec := "wheelMost", unfollowed := true, recurses := true, plainKeys := false, apart := false, narrowed := true }
def WheelMostUptoSaid : Prop := wheelMostUptoRow.holds Try.pinned (OpenSpec.upto wheelMostSpec)

/-- 'cablewaylaw08.FetchMany', WHERE WHAT IT READS IS OF BULK AT MOST 1048576: true; the input reads as it did. -/
def fetchManyUptoRow : OpenClaim := { program := "ytonhcimkodgijaa", sum := "034b241ebde242b3d70a3a8c781832e168bc250f297fa3e79da3c43d60dd1ef3", func := "cableway/cablewaylaw08.FetchMany", spec := "fetchMany", plainKeys := false, apart := false, narrowed := true }
def FetchManyUptoSaid : Prop := fetchManyUptoRow.holds Try.pinned (OpenSpec.upto fetchManySpec)

/-- 'cablewaylaw08.FetchOrder', WHERE WHAT IT READS IS OF BULK AT MOST 1048576: true; the input reads as it did. -/
def fetchOrderUptoRow : OpenClaim := { program := "ytonhcimkodgijaa", sum := "034b241ebde242b3d70a3a8c781832e168bc250f297fa3e79da3c43d60dd1ef3", func := "cableway/cablewaylaw08.FetchOrder", spec := "fetchOrder", plainKeys := false, apart := false, narrowed := true }
def FetchOrderUptoSaid : Prop := fetchOrderUptoRow.holds Try.pinned (OpenSpec.upto fetchOrderSpec)

/-- 'cablewaylaw46.SweepRight', WHERE WHAT IT READS IS OF BULK AT MOST 1048576: true; the input reads as it did. -/
def sweepRightUptoRow : OpenClaim := { program := "ytonhcimkodgijaa", sum := "034b241ebde242b3d70a3a8c781832e168bc250f297fa3e79da3c43d60dd1ef3", func := "cableway/cablewaylaw46.SweepRight", spec := "sweepRight", recurses := true, plainKeys := false, apart := false, narrowed := true }
def SweepRightUptoSaid : Prop := sweepRightUptoRow.holds Try.pinned (OpenSpec.upto sweepRightSpec)

/-- 'cablewaylaw46.SweepCuts', WHERE WHAT IT READS IS OF BULK AT MOST 1048576: true; the input reads as it did. -/
def sweepCutsUptoRow : OpenClaim := { program := "ytonhcimkodgijaa", sum := "034b241ebde242b3d70a3a8c781832e168bc250f297fa3e79da3c43d60dd1ef3", func := "cableway/cablewaylaw46.SweepCuts", spec := "sweepCuts", recurses := true, plainKeys := false, apart := false, narrowed := true }
def SweepCutsUptoSaid : Prop := sweepCutsUptoRow.holds Try.pinned (OpenSpec.upto sweepCutsSpec)

/-- 'cablewaylaw27.ServerOnce', WHERE WHAT IT READS IS OF BULK AT MOST 1048576: true; the input reads as it did. -/
def serverOnceUptoRow : OpenClaim := { program := "ytonhcimkodgijaa", sum := "034b241ebde242b3d70a3a8c781832e168bc250f297fa3e79da3c43d60dd1ef3", func := "cableway/cablewaylaw27.ServerOnce", spec := "serverOnce", unfollowed := true, recurses := true, plainKeys := false, apart := false, narrowed := true }
def ServerOnceUptoSaid : Prop := serverOnceUptoRow.holds Try.pinned (OpenSpec.upto serverOnceSpec)

end Rows
end Go.Proofs.Ytonhcimkodgijaa
