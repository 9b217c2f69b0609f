/-
  The pure law of FabricNone: the abstract machine finds it true at every input.
-/
import Derived.Test.YthackiallbgeaaaGreatDoorIrFabricNone
import Derived.Test.YthackiallbgeaaaGreatDoorMxT
import Derived.KernelRfl
import Derived.Test.YthackiallbgeaaaGreatDoorMxW
import Derived.Test.YthackiallbgeaaaGreatDoorLeafFabricNoneA
namespace Go.Proofs.YthackiallbgeaaaGreatDoor.PureFabricNone
open Go Mx Go.Proofs.YthackiallbgeaaaGreatDoor
set_option linter.unusedVariables false
def shape : List AK := [.pl false [.i .i64], .pl false [.i .i64], .pl true [.i .i64, .i .i64, .i .i64, .i .u32, .b, .i .i64, .i .u32]]
/-- the listed variables, by their numbers -/
def rows : List (Nat × List V) := [(2, [.i .i64 0, .i .i64 4]), (3, [.i .i64 4, .i .i64 4]), (4, [.i .i64 8, .i .i64 4]), (5, [.i .i64 12, .i .i64 8]), (6, [.i .i64 20, .i .i64 4]), (7, [.i .i64 24, .i .i64 1]), (8, [.i .i64 25, .i .i64 1]), (9, [.i .i64 26, .i .i64 24]), (11, [.i .i64 0, .i .i64 32]), (10, [.i .i64 32, .i .i64 32]), (12, [.i .i64 0, .i .i64 16]), (1, [.i .i64 0, .i .i64 24]), (0, [.i .i64 24, .i .i64 2])]
theorem aks : aksOf Tryz.prog Tryz.f5.params.toList = some shape := by kernel_rfl
set_option maxRecDepth 10000
open IrFabricNone Sx
theorem in64 {n : Int} (h : (Lit.int .i64 n).wf = true) : IntKind.min .i64 ≤ n ∧ n ≤ IntKind.max .i64 := wf64 h
theorem in32 {n : Int} (h : (Lit.int .u32 n).wf = true) : IntKind.min .u32 ≤ n ∧ n ≤ IntKind.max .u32 := wf32u h
def nums (x0 x1 x2 x3 x5 x6 k n : Int) (x4 : Bool) : Nat → Int := val [x0, x1, x2, x3, x5, x6, k, cond x4 1 0, n]
theorem main (n : Int) (k_ : Int) (x0 : Int) (x1 : Int) (x2 : Int) (x3 : Int) (x4 : Bool) (x5 : Int) (x6 : Int) (wn : (Lit.int .i64 n).wf = true) (wk_ : (Lit.int .i64 k_).wf = true) (wx0 : (Lit.int .i64 x0).wf = true) (wx1 : (Lit.int .i64 x1).wf = true) (wx2 : (Lit.int .i64 x2).wf = true) (wx3 : (Lit.int .u32 x3).wf = true) (wx5 : (Lit.int .i64 x5).wf = true) (wx6 : (Lit.int .u32 x6).wf = true) : Fnc IrFabricNone.IP 5 [.i .i64 n, .i .i64 k_, .agg [.i .i64 x0, .i .i64 x1, .i .i64 x2, .i .u32 x3, .b x4, .i .i64 x5, .i .u32 x6]] (rowsH 13 rows) (fun v _ => v = .b true) := by
  have hs : Sat (nums x0 x1 x2 x3 x5 x6 k_ n x4) (inB .i64 0 (inB .i64 1 (inB .i64 2 (inB .u32 3 (inB .i64 4 (inB .u32 5 (inB .i64 6 (inB .i64 8 [])))))))) :=
    Sat_inB (in64 wx0).1 (in64 wx0).2 (Sat_inB (in64 wx1).1 (in64 wx1).2 (Sat_inB (in64 wx2).1 (in64 wx2).2 (Sat_inB (in32 wx3).1 (in32 wx3).2 (Sat_inB (in64 wx5).1 (in64 wx5).2 (Sat_inB (in32 wx6).1 (in32 wx6).2 (Sat_inB (in64 wk_).1 (in64 wk_).2 (Sat_inB (in64 wn).1 (in64 wn).2 trivial)))))))
  have := LeafFabricNone.allT _ hs
  cases x4 <;> exact this
theorem law : ∀ vs h, ArgsOK shape (rowsH 13 rows) vs h → ∃ k h', ev IrFabricNone.IP k 5 vs h = some (.b true, h') := by
  rintro vs h ⟨_, _, ⟨_, _, rfl, ⟨n, rfl, wn⟩, rfl⟩, rfl, _, _, ⟨_, _, rfl, ⟨k_, rfl, wk_⟩, rfl⟩, rfl, _, _, ⟨_, _, rfl, ⟨x0, rfl, wx0⟩, ⟨_, _, rfl, ⟨x1, rfl, wx1⟩, ⟨_, _, rfl, ⟨x2, rfl, wx2⟩, ⟨_, _, rfl, ⟨x3, rfl, wx3⟩, ⟨_, _, rfl, ⟨x4, rfl⟩, ⟨_, _, rfl, ⟨x5, rfl, wx5⟩, ⟨_, _, rfl, ⟨x6, rfl, wx6⟩, rfl⟩⟩⟩⟩⟩⟩⟩, rfl, rfl, rfl⟩
  exact law_of_fnc (main n k_ x0 x1 x2 x3 x4 x5 x6 wn wk_ wx0 wx1 wx2 wx3 wx5 wx6)
end Go.Proofs.YthackiallbgeaaaGreatDoor.PureFabricNone
