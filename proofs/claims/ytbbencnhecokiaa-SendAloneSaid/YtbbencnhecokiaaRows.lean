/-
  No cell of these rows narrows 'for every input' (looked for: loops, veiled, ifaces, maps, wideKeys, modest, calm, conditions, laid).
  DERIVED. THE GIVEN ROWS OF THIS SEAT. 9 by the template 'for every input the law returns true; each argument reads behind the call as it read before'; 0 by the template 'total and deterministic' (their statements: YtbbencnhecokiaaTotals.lean).
  GIVEN WITH THE SEED: the statements are not yours to turn. If you find one false, say at which input.
  Laid BY PROGRAM, IN A SANDBOX (cutbox-rows.mjs): the forced cells as the released guide's own fill.sh prints them over the translation 92fdf3ae040068c3… (all of the seat's roots in one cut). By AI agents, Wed Nov 11 2026. No macro, syntax, notation, axiom, sorry.
-/
import Derived.Test.YtbbencnhecokiaaChecked
import GoSem.Claim
import GoSem.ClaimJoined
import GoSem.ClaimMapViews
import Derived.JoinedTies
import Derived.KernelRfl
namespace Go.Proofs.Ytbbencnhecokiaa
/- THE CELL 'sum', in the pinned program and in every row, IS THE sha256 OF THE DUMP (.gsa) THAT YtbbencnhecokiaaProg.lean LOADS. Nothing in Lean hashes anything: it is a label: what it is worth is what the hold of that sum in a sandbox is worth. -/
noncomputable def Try.pinned : Pinned := { name := "ytbbencnhecokiaa", sum := "92fdf3ae040068c34fed5848dd3dc68166dc7462976b61f82d0658af9007240b", checked := Try.checked }
namespace Rows
def none {H : Type} : Left H := { results := [], args := [] }

/-- 'cablewaylaw07.SendInput': WHATEVER THE INPUT: true; the input reads as it did. -/
def sendInputSpec : ChangeSpec := { name := "sendInput", fn := fun _ => fun
  | [d1, d2, d3] => { results := [.lit (.bool true)], args := [d1, d2, d3] }
  | _ => none }
def sendInputRow : OpenClaim := { program := "ytbbencnhecokiaa", sum := "92fdf3ae040068c34fed5848dd3dc68166dc7462976b61f82d0658af9007240b", func := "cableway/cablewaylaw07.SendInput", spec := "sendInput", plainKeys := false, apart := false }
def SendInputSaid : Prop := sendInputRow.holds Try.pinned (OpenSpec.ofChange sendInputSpec)

/-- ITS FALSE NEIGHBOUR: 'it returns false'. Refute it at one input. -/
def sendInputWrong : ChangeSpec := { name := "sendInput", fn := fun _ => fun
  | [d1, d2, d3] => { results := [.lit (.bool false)], args := [d1, d2, d3] }
  | _ => none }
def SendInputWrongFalsely : Prop := sendInputRow.holds Try.pinned (OpenSpec.ofChange sendInputWrong)

/-- 'cablewaylaw07.SendAlone': WHATEVER THE INPUT: true; the input reads as it did. -/
def sendAloneSpec : ChangeSpec := { name := "sendAlone", fn := fun _ => fun
  | [d1, d2, d3] => { results := [.lit (.bool true)], args := [d1, d2, d3] }
  | _ => none }
def sendAloneRow : OpenClaim := { program := "ytbbencnhecokiaa", sum := "92fdf3ae040068c34fed5848dd3dc68166dc7462976b61f82d0658af9007240b", func := "cableway/cablewaylaw07.SendAlone", spec := "sendAlone", plainKeys := false, apart := false }
def SendAloneSaid : Prop := sendAloneRow.holds Try.pinned (OpenSpec.ofChange sendAloneSpec)

/-- ITS FALSE NEIGHBOUR: 'it returns false'. Refute it at one input. -/
def sendAloneWrong : ChangeSpec := { name := "sendAlone", fn := fun _ => fun
  | [d1, d2, d3] => { results := [.lit (.bool false)], args := [d1, d2, d3] }
  | _ => none }
def SendAloneWrongFalsely : Prop := sendAloneRow.holds Try.pinned (OpenSpec.ofChange sendAloneWrong)

/-- 'cablewaylaw08.FetchMany': WHATEVER THE INPUT: true; the input reads as it did. -/
def fetchManySpec : ChangeSpec := { name := "fetchMany", fn := fun _ => fun
  | [d1, d2] => { results := [.lit (.bool true)], args := [d1, d2] }
  | _ => none }
def fetchManyRow : OpenClaim := { program := "ytbbencnhecokiaa", sum := "92fdf3ae040068c34fed5848dd3dc68166dc7462976b61f82d0658af9007240b", func := "cableway/cablewaylaw08.FetchMany", spec := "fetchMany", plainKeys := false, apart := false }
def FetchManySaid : Prop := fetchManyRow.holds Try.pinned (OpenSpec.ofChange fetchManySpec)

/-- ITS FALSE NEIGHBOUR: 'it returns false'. Refute it at one input. -/
def fetchManyWrong : ChangeSpec := { name := "fetchMany", fn := fun _ => fun
  | [d1, d2] => { results := [.lit (.bool false)], args := [d1, d2] }
  | _ => none }
def FetchManyWrongFalsely : Prop := fetchManyRow.holds Try.pinned (OpenSpec.ofChange fetchManyWrong)

/-- 'cablewaylaw08.FetchInput': WHATEVER THE INPUT: true; the input reads as it did. -/
def fetchInputSpec : ChangeSpec := { name := "fetchInput", fn := fun _ => fun
  | [d1, d2] => { results := [.lit (.bool true)], args := [d1, d2] }
  | _ => none }
def fetchInputRow : OpenClaim := { program := "ytbbencnhecokiaa", sum := "92fdf3ae040068c34fed5848dd3dc68166dc7462976b61f82d0658af9007240b", func := "cableway/cablewaylaw08.FetchInput", spec := "fetchInput", plainKeys := false, apart := false }
def FetchInputSaid : Prop := fetchInputRow.holds Try.pinned (OpenSpec.ofChange fetchInputSpec)

/-- ITS FALSE NEIGHBOUR: 'it returns false'. Refute it at one input. -/
def fetchInputWrong : ChangeSpec := { name := "fetchInput", fn := fun _ => fun
  | [d1, d2] => { results := [.lit (.bool false)], args := [d1, d2] }
  | _ => none }
def FetchInputWrongFalsely : Prop := fetchInputRow.holds Try.pinned (OpenSpec.ofChange fetchInputWrong)

/-- 'cablewaylaw08.FetchOrder': WHATEVER THE INPUT: true; the input reads as it did. -/
def fetchOrderSpec : ChangeSpec := { name := "fetchOrder", fn := fun _ => fun
  | [d1, d2, d3] => { results := [.lit (.bool true)], args := [d1, d2, d3] }
  | _ => none }
def fetchOrderRow : OpenClaim := { program := "ytbbencnhecokiaa", sum := "92fdf3ae040068c34fed5848dd3dc68166dc7462976b61f82d0658af9007240b", func := "cableway/cablewaylaw08.FetchOrder", spec := "fetchOrder", plainKeys := false, apart := false }
def FetchOrderSaid : Prop := fetchOrderRow.holds Try.pinned (OpenSpec.ofChange fetchOrderSpec)

/-- ITS FALSE NEIGHBOUR: 'it returns false'. Refute it at one input. -/
def fetchOrderWrong : ChangeSpec := { name := "fetchOrder", fn := fun _ => fun
  | [d1, d2, d3] => { results := [.lit (.bool false)], args := [d1, d2, d3] }
  | _ => none }
def FetchOrderWrongFalsely : Prop := fetchOrderRow.holds Try.pinned (OpenSpec.ofChange fetchOrderWrong)

/-- 'cablewaylaw46.SweepRight': WHATEVER THE INPUT: true; the input reads as it did. -/
def sweepRightSpec : ChangeSpec := { name := "sweepRight", fn := fun _ => fun
  | [d1, d2] => { results := [.lit (.bool true)], args := [d1, d2] }
  | _ => none }
def sweepRightRow : OpenClaim := { program := "ytbbencnhecokiaa", sum := "92fdf3ae040068c34fed5848dd3dc68166dc7462976b61f82d0658af9007240b", func := "cableway/cablewaylaw46.SweepRight", spec := "sweepRight", recurses := true, plainKeys := false, apart := false }
def SweepRightSaid : Prop := sweepRightRow.holds Try.pinned (OpenSpec.ofChange sweepRightSpec)

/-- ITS FALSE NEIGHBOUR: 'it returns false'. Refute it at one input. -/
def sweepRightWrong : ChangeSpec := { name := "sweepRight", fn := fun _ => fun
  | [d1, d2] => { results := [.lit (.bool false)], args := [d1, d2] }
  | _ => none }
def SweepRightWrongFalsely : Prop := sweepRightRow.holds Try.pinned (OpenSpec.ofChange sweepRightWrong)

/-- 'cablewaylaw46.SweepCuts': WHATEVER THE INPUT: true; the input reads as it did. -/
def sweepCutsSpec : ChangeSpec := { name := "sweepCuts", fn := fun _ => fun
  | [d] => { results := [.lit (.bool true)], args := [d] }
  | _ => none }
def sweepCutsRow : OpenClaim := { program := "ytbbencnhecokiaa", sum := "92fdf3ae040068c34fed5848dd3dc68166dc7462976b61f82d0658af9007240b", func := "cableway/cablewaylaw46.SweepCuts", spec := "sweepCuts", recurses := true, plainKeys := false, apart := false }
def SweepCutsSaid : Prop := sweepCutsRow.holds Try.pinned (OpenSpec.ofChange sweepCutsSpec)

/-- ITS FALSE NEIGHBOUR: 'it returns false'. Refute it at one input. -/
def sweepCutsWrong : ChangeSpec := { name := "sweepCuts", fn := fun _ => fun
  | [d] => { results := [.lit (.bool false)], args := [d] }
  | _ => none }
def SweepCutsWrongFalsely : Prop := sweepCutsRow.holds Try.pinned (OpenSpec.ofChange sweepCutsWrong)

/-- 'cablewaylaw27.ServerOnce': WHATEVER THE INPUT: true; the input reads as it did. -/
def serverOnceSpec : ChangeSpec := { name := "serverOnce", fn := fun _ => fun
  | [d] => { results := [.lit (.bool true)], args := [d] }
  | _ => none }
def serverOnceRow : OpenClaim := { program := "ytbbencnhecokiaa", sum := "92fdf3ae040068c34fed5848dd3dc68166dc7462976b61f82d0658af9007240b", func := "cableway/cablewaylaw27.ServerOnce", spec := "serverOnce", unfollowed := true, recurses := true, plainKeys := false, apart := false }
def ServerOnceSaid : Prop := serverOnceRow.holds Try.pinned (OpenSpec.ofChange serverOnceSpec)

/-- ITS FALSE NEIGHBOUR: 'it returns false'. Refute it at one input. -/
def serverOnceWrong : ChangeSpec := { name := "serverOnce", fn := fun _ => fun
  | [d] => { results := [.lit (.bool false)], args := [d] }
  | _ => none }
def ServerOnceWrongFalsely : Prop := serverOnceRow.holds Try.pinned (OpenSpec.ofChange serverOnceWrong)

/-- 'cablewaylaw27.ServerNone': WHATEVER THE INPUT: true; the input reads as it did. -/
def serverNoneSpec : ChangeSpec := { name := "serverNone", fn := fun _ => fun
  | [d1, d2, d3] => { results := [.lit (.bool true)], args := [d1, d2, d3] }
  | _ => none }
def serverNoneRow : OpenClaim := { program := "ytbbencnhecokiaa", sum := "92fdf3ae040068c34fed5848dd3dc68166dc7462976b61f82d0658af9007240b", func := "cableway/cablewaylaw27.ServerNone", spec := "serverNone", unfollowed := true, recurses := true, plainKeys := false, apart := false }
def ServerNoneSaid : Prop := serverNoneRow.holds Try.pinned (OpenSpec.ofChange serverNoneSpec)

/-- ITS FALSE NEIGHBOUR: 'it returns false'. Refute it at one input. -/
def serverNoneWrong : ChangeSpec := { name := "serverNone", fn := fun _ => fun
  | [d1, d2, d3] => { results := [.lit (.bool false)], args := [d1, d2, d3] }
  | _ => none }
def ServerNoneWrongFalsely : Prop := serverNoneRow.holds Try.pinned (OpenSpec.ofChange serverNoneWrong)

/- THE SECOND FORM. 'bulk': how many values and letters a reading holds, each counted each time it is reached (what is shared counts as often as it is met; a slice's spare places count too). A statement '..UptoSaid' is the law's where the arguments, and the package variables that the reading takes, are together of bulk at most 1048576: NARROWER than '..Said'. Prove '..Said' where nothing that the law and all that it calls make is longer than what came in: it says more and counts as full. Else prove '..UptoSaid'. A law counts once. -/
mutual
def uptoBulk {H : Type} : DataW H → Nat
  | .lit (.string bytes) => bytes.length + 1
  | .lit _ => 1
  | .nil => 1
  | .ptr d => uptoBulk d + 1
  | .slice elems spare => uptoBulkAll elems + uptoBulkAll spare + 1
  | .agg parts => uptoBulkAll parts + 1
  | .iface _ d => uptoBulk d + 1
  | .map entries => uptoBulkEntries entries + 1
  | .held _ => 1
def uptoBulkAll {H : Type} : List (DataW H) → Nat
  | [] => 0
  | d :: r => uptoBulk d + uptoBulkAll r
def uptoBulkEntries {H : Type} : List (Lit × DataW H) → Nat
  | [] => 0
  | x :: r => uptoBulkEntry x + uptoBulkEntries r
def uptoBulkEntry {H : Type} : Lit × DataW H → Nat
  | (.string bytes, d) => bytes.length + uptoBulk d + 1
  | (_, d) => uptoBulk d + 1
 end
def uptoSmall : (H : Type) → List (DataW H) → Bool := fun _ ds => decide (uptoBulkAll ds ≤ 1048576)
def OpenSpec.upto (s : _root_.Go.ChangeSpec) : _root_.Go.OpenSpec := { _root_.Go.OpenSpec.ofChange s with cond := some uptoSmall }

/-- 'cablewaylaw07.SendInput', WHERE WHAT IT READS IS OF BULK AT MOST 1048576: true; the input reads as it did. -/
def sendInputUptoRow : OpenClaim := { program := "ytbbencnhecokiaa", sum := "92fdf3ae040068c34fed5848dd3dc68166dc7462976b61f82d0658af9007240b", func := "cableway/cablewaylaw07.SendInput", spec := "sendInput", plainKeys := false, apart := false, narrowed := true }
def SendInputUptoSaid : Prop := sendInputUptoRow.holds Try.pinned (OpenSpec.upto sendInputSpec)

/-- 'cablewaylaw07.SendAlone', WHERE WHAT IT READS IS OF BULK AT MOST 1048576: true; the input reads as it did. -/
def sendAloneUptoRow : OpenClaim := { program := "ytbbencnhecokiaa", sum := "92fdf3ae040068c34fed5848dd3dc68166dc7462976b61f82d0658af9007240b", func := "cableway/cablewaylaw07.SendAlone", spec := "sendAlone", plainKeys := false, apart := false, narrowed := true }
def SendAloneUptoSaid : Prop := sendAloneUptoRow.holds Try.pinned (OpenSpec.upto sendAloneSpec)

/-- 'cablewaylaw08.FetchMany', WHERE WHAT IT READS IS OF BULK AT MOST 1048576: true; the input reads as it did. -/
def fetchManyUptoRow : OpenClaim := { program := "ytbbencnhecokiaa", sum := "92fdf3ae040068c34fed5848dd3dc68166dc7462976b61f82d0658af9007240b", func := "cableway/cablewaylaw08.FetchMany", spec := "fetchMany", plainKeys := false, apart := false, narrowed := true }
def FetchManyUptoSaid : Prop := fetchManyUptoRow.holds Try.pinned (OpenSpec.upto fetchManySpec)

/-- 'cablewaylaw08.FetchInput', WHERE WHAT IT READS IS OF BULK AT MOST 1048576: true; the input reads as it did. -/
def fetchInputUptoRow : OpenClaim := { program := "ytbbencnhecokiaa", sum := "92fdf3ae040068c34fed5848dd3dc68166dc7462976b61f82d0658af9007240b", func := "cableway/cablewaylaw08.FetchInput", spec := "fetchInput", plainKeys := false, apart := false, narrowed := true }
def FetchInputUptoSaid : Prop := fetchInputUptoRow.holds Try.pinned (OpenSpec.upto fetchInputSpec)

/-- 'cablewaylaw08.FetchOrder', WHERE WHAT IT READS IS OF BULK AT MOST 1048576: true; the input reads as it did. -/
def fetchOrderUptoRow : OpenClaim := { program := "ytbbencnhecokiaa", sum := "92fdf3ae040068c34fed5848dd3dc68166dc7462976b61f82d0658af9007240b", func := "cableway/cablewaylaw08.FetchOrder", spec := "fetchOrder", plainKeys := false, apart := false, narrowed := true }
def FetchOrderUptoSaid : Prop := fetchOrderUptoRow.holds Try.pinned (OpenSpec.upto fetchOrderSpec)

/-- 'cablewaylaw46.SweepRight', WHERE WHAT IT READS IS OF BULK AT MOST 1048576: true; the input reads as it did. -/
def sweepRightUptoRow : OpenClaim := { program := "ytbbencnhecokiaa", sum := "92fdf3ae040068c34fed5848dd3dc68166dc7462976b61f82d0658af9007240b", func := "cableway/cablewaylaw46.SweepRight", spec := "sweepRight", recurses := true, plainKeys := false, apart := false, narrowed := true }
def SweepRightUptoSaid : Prop := sweepRightUptoRow.holds Try.pinned (OpenSpec.upto sweepRightSpec)

/-- 'cablewaylaw46.SweepCuts', WHERE WHAT IT READS IS OF BULK AT MOST 1048576: true; the input reads as it did. -/
def sweepCutsUptoRow : OpenClaim := { program := "ytbbencnhecokiaa", sum := "92fdf3ae040068c34fed5848dd3dc68166dc7462976b61f82d0658af9007240b", func := "cableway/cablewaylaw46.SweepCuts", spec := "sweepCuts", recurses := true, plainKeys := false, apart := false, narrowed := true }
def SweepCutsUptoSaid : Prop := sweepCutsUptoRow.holds Try.pinned (OpenSpec.upto sweepCutsSpec)

/-- 'cablewaylaw27.ServerOnce', WHERE WHAT IT READS IS OF BULK AT MOST 1048576: true; the input reads as it did. -/
def serverOnceUptoRow : OpenClaim := { program := "ytbbencnhecokiaa", sum := "92fdf3ae040068c34fed5848dd3dc68166dc7462976b61f82d0658af9007240b", func := "cableway/cablewaylaw27.ServerOnce", spec := "serverOnce", unfollowed := true, recurses := true, plainKeys := false, apart := false, narrowed := true }
def ServerOnceUptoSaid : Prop := serverOnceUptoRow.holds Try.pinned (OpenSpec.upto serverOnceSpec)

/-- 'cablewaylaw27.ServerNone', WHERE WHAT IT READS IS OF BULK AT MOST 1048576: true; the input reads as it did. -/
def serverNoneUptoRow : OpenClaim := { program := "ytbbencnhecokiaa", sum := "92fdf3ae040068c34fed5848dd3dc68166dc7462976b61f82d0658af9007240b", func := "cableway/cablewaylaw27.ServerNone", spec := "serverNone", unfollowed := true, recurses := true, plainKeys := false, apart := false, narrowed := true }
def ServerNoneUptoSaid : Prop := serverNoneUptoRow.holds Try.pinned (OpenSpec.upto serverNoneSpec)

end Rows
end Go.Proofs.Ytbbencnhecokiaa
