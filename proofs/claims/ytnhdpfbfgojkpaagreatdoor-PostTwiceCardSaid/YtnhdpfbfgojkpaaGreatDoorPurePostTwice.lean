/-
  The pure law of PostTwice: the abstract machine finds it true at every input.
-/
import Derived.Test.YtnhdpfbfgojkpaaGreatDoorIrPostTwice
import Derived.Test.YtnhdpfbfgojkpaaGreatDoorMxT
import Derived.KernelRfl
import Derived.Test.YtnhdpfbfgojkpaaGreatDoorMxW
import Derived.Test.YtnhdpfbfgojkpaaGreatDoorLeafPostTwiceA
namespace Go.Proofs.YtnhdpfbfgojkpaaGreatDoor.PurePostTwice
open Go Mx Go.Proofs.YtnhdpfbfgojkpaaGreatDoor
set_option linter.unusedVariables false
def shape : List AK := [.pl true [.i .i64, .i .i64, .i .i64, .i .i64, .i .i64, .i .u32, .i .i64, .b, .b, .i .i64, .i .u32], .pl false [.b]]
/-- the listed variables, by their numbers -/
def rows : List (Nat × List V) := [(2, [.i .i64 0, .i .i64 4]), (3, [.i .i64 4, .i .i64 4]), (4, [.i .i64 8, .i .i64 4]), (5, [.i .i64 12, .i .i64 8]), (6, [.i .i64 20, .i .i64 4]), (7, [.i .i64 24, .i .i64 1]), (8, [.i .i64 25, .i .i64 1]), (9, [.i .i64 26, .i .i64 24]), (11, [.i .i64 0, .i .i64 32]), (10, [.i .i64 32, .i .i64 32]), (12, [.i .i64 0, .i .i64 16])]
theorem aks : aksOf Tryz.prog Tryz.f4.params.toList = some shape := by kernel_rfl
set_option maxRecDepth 10000
open IrPostTwice Sx
theorem in64 {n : Int} (h : (Lit.int .i64 n).wf = true) : IntKind.min .i64 ≤ n ∧ n ≤ IntKind.max .i64 := wf64 h
theorem in32 {n : Int} (h : (Lit.int .u32 n).wf = true) : IntKind.min .u32 ≤ n ∧ n ≤ IntKind.max .u32 := wf32u h
def nums (f0 f1 f2 f3 f4 f5 f6 f9 f10 : Int) (f7 f8 : Bool) : Nat → Int := val [f0, f1, f2, f3, f4, f5, f6, f9, f10, cond f7 1 0, cond f8 1 0]
theorem main (f0 : Int) (f1 : Int) (f2 : Int) (f3 : Int) (f4 : Int) (f5 : Int) (f6 : Int) (f7 : Bool) (f8 : Bool) (f9 : Int) (f10 : Int) (lost : Bool) (wf0 : (Lit.int .i64 f0).wf = true) (wf1 : (Lit.int .i64 f1).wf = true) (wf2 : (Lit.int .i64 f2).wf = true) (wf3 : (Lit.int .i64 f3).wf = true) (wf4 : (Lit.int .i64 f4).wf = true) (wf5 : (Lit.int .u32 f5).wf = true) (wf6 : (Lit.int .i64 f6).wf = true) (wf9 : (Lit.int .i64 f9).wf = true) (wf10 : (Lit.int .u32 f10).wf = true) : Fnc IrPostTwice.IP 4 [.agg [.i .i64 f0, .i .i64 f1, .i .i64 f2, .i .i64 f3, .i .i64 f4, .i .u32 f5, .i .i64 f6, .b f7, .b f8, .i .i64 f9, .i .u32 f10], .b lost] (rowsH 13 rows) (fun v _ => v = .b true) := by
  have hs : Sat (nums f0 f1 f2 f3 f4 f5 f6 f9 f10 f7 f8) (inB .i64 0 (inB .i64 1 (inB .i64 2 (inB .i64 3 (inB .i64 4 (inB .u32 5 (inB .i64 6 (inB .i64 7 (inB .u32 8 []))))))))) :=
    Sat_inB (in64 wf0).1 (in64 wf0).2 (Sat_inB (in64 wf1).1 (in64 wf1).2 (Sat_inB (in64 wf2).1 (in64 wf2).2 (Sat_inB (in64 wf3).1 (in64 wf3).2 (Sat_inB (in64 wf4).1 (in64 wf4).2 (Sat_inB (in32 wf5).1 (in32 wf5).2 (Sat_inB (in64 wf6).1 (in64 wf6).2 (Sat_inB (in64 wf9).1 (in64 wf9).2 (Sat_inB (in32 wf10).1 (in32 wf10).2 trivial))))))))
  cases lost with
  | true =>
    have := LeafPostTwice.allT _ hs
    cases f7 <;> cases f8 <;> exact this
  | false =>
    have := LeafPostTwice.allF _ hs
    cases f7 <;> cases f8 <;> exact this
theorem law : ∀ vs h, ArgsOK shape (rowsH 13 rows) vs h → ∃ k h', ev IrPostTwice.IP k 4 vs h = some (.b true, h') := by
  rintro vs h ⟨_, _, ⟨_, _, rfl, ⟨f0, rfl, wf0⟩, ⟨_, _, rfl, ⟨f1, rfl, wf1⟩, ⟨_, _, rfl, ⟨f2, rfl, wf2⟩, ⟨_, _, rfl, ⟨f3, rfl, wf3⟩, ⟨_, _, rfl, ⟨f4, rfl, wf4⟩, ⟨_, _, rfl, ⟨f5, rfl, wf5⟩, ⟨_, _, rfl, ⟨f6, rfl, wf6⟩, ⟨_, _, rfl, ⟨f7, rfl⟩, ⟨_, _, rfl, ⟨f8, rfl⟩, ⟨_, _, rfl, ⟨f9, rfl, wf9⟩, ⟨_, _, rfl, ⟨f10, rfl, wf10⟩, rfl⟩⟩⟩⟩⟩⟩⟩⟩⟩⟩⟩, rfl, _, _, ⟨_, _, rfl, ⟨lost, rfl⟩, rfl⟩, rfl, rfl, rfl⟩
  exact law_of_fnc (main f0 f1 f2 f3 f4 f5 f6 f7 f8 f9 f10 lost wf0 wf1 wf2 wf3 wf4 wf5 wf6 wf9 wf10)
end Go.Proofs.YtnhdpfbfgojkpaaGreatDoor.PurePostTwice
