/-
  The pure law of ClientCalls: the abstract machine finds it true at every input.
-/
import Derived.Test.YthackiallbgeaaaGreatDoorIrClientCalls
import Derived.Test.YthackiallbgeaaaGreatDoorMxT
import Derived.KernelRfl
import Derived.Test.YthackiallbgeaaaGreatDoorMxW
import Derived.Test.YthackiallbgeaaaGreatDoorLeafClientCallsA
namespace Go.Proofs.YthackiallbgeaaaGreatDoor.PureClientCalls
open Go Mx Go.Proofs.YthackiallbgeaaaGreatDoor
set_option linter.unusedVariables false
def shape : List AK := [.pl false [.i .i64], .pl true [.i .u32, .i .u32], .pl false [.i .i64]]
/-- the listed variables, by their numbers -/
def rows : List (Nat × List V) := [(2, [.i .i64 0, .i .i64 4]), (3, [.i .i64 4, .i .i64 4]), (4, [.i .i64 8, .i .i64 4]), (5, [.i .i64 12, .i .i64 8]), (6, [.i .i64 20, .i .i64 4]), (7, [.i .i64 24, .i .i64 1]), (8, [.i .i64 25, .i .i64 1]), (9, [.i .i64 26, .i .i64 24]), (11, [.i .i64 0, .i .i64 32]), (10, [.i .i64 32, .i .i64 32]), (12, [.i .i64 0, .i .i64 16]), (1, [.i .i64 0, .i .i64 24]), (0, [.i .i64 24, .i .i64 2])]
theorem aks : aksOf Tryz.prog Tryz.f4.params.toList = some shape := by kernel_rfl
set_option maxRecDepth 10000
open IrClientCalls Sx
theorem in64 {n : Int} (h : (Lit.int .i64 n).wf = true) : IntKind.min .i64 ≤ n ∧ n ≤ IntKind.max .i64 := wf64 h
theorem in32 {n : Int} (h : (Lit.int .u32 n).wf = true) : IntKind.min .u32 ≤ n ∧ n ≤ IntKind.max .u32 := wf32u h
theorem main (m : Int) (arg0 : Int) (arg1 : Int) (kind : Int) (wm : (Lit.int .i64 m).wf = true) (warg0 : (Lit.int .u32 arg0).wf = true) (warg1 : (Lit.int .u32 arg1).wf = true) (wkind : (Lit.int .i64 kind).wf = true) : Fnc IrClientCalls.IP 4 [.i .i64 m, .agg [.i .u32 arg0, .i .u32 arg1], .i .i64 kind] (rowsH 13 rows) (fun v _ => v = .b true) := by
  have hs : Sat (val [m, arg0, arg1, kind]) (inB .i64 0 (inB .u32 1 (inB .u32 2 (inB .i64 3 [])))) :=
    Sat_inB (in64 wm).1 (in64 wm).2 (Sat_inB (in32 warg0).1 (in32 warg0).2 (Sat_inB (in32 warg1).1 (in32 warg1).2 (Sat_inB (in64 wkind).1 (in64 wkind).2 trivial)))
  exact LeafClientCalls.allT _ hs
theorem law : ∀ vs h, ArgsOK shape (rowsH 13 rows) vs h → ∃ k h', ev IrClientCalls.IP k 4 vs h = some (.b true, h') := by
  rintro vs h ⟨_, _, ⟨_, _, rfl, ⟨m, rfl, wm⟩, rfl⟩, rfl, _, _, ⟨_, _, rfl, ⟨arg0, rfl, warg0⟩, ⟨_, _, rfl, ⟨arg1, rfl, warg1⟩, rfl⟩⟩, rfl, _, _, ⟨_, _, rfl, ⟨kind, rfl, wkind⟩, rfl⟩, rfl, rfl, rfl⟩
  exact law_of_fnc (main m arg0 arg1 kind wm warg0 warg1 wkind)
end Go.Proofs.YthackiallbgeaaaGreatDoor.PureClientCalls
