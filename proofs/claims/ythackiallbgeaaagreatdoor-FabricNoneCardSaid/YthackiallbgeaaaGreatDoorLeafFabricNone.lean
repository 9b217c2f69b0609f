/-
  Kernel runs of FabricNone with unknown numbers, a path each.
-/
import Derived.Test.YthackiallbgeaaaGreatDoorIrFabricNone
import Derived.KernelRfl
namespace Go.Proofs.YthackiallbgeaaaGreatDoor.LeafFabricNone
open Go Mx Sx Go.Proofs.YthackiallbgeaaaGreatDoor.IrFabricNone
def rows : List (Nat × List V) := [(2, [.i .i64 0, .i .i64 4]), (3, [.i .i64 4, .i .i64 4]), (4, [.i .i64 8, .i .i64 4]), (5, [.i .i64 12, .i .i64 8]), (6, [.i .i64 20, .i .i64 4]), (7, [.i .i64 24, .i .i64 1]), (8, [.i .i64 25, .i .i64 1]), (9, [.i .i64 26, .i .i64 24]), (11, [.i .i64 0, .i .i64 32]), (10, [.i .i64 32, .i .i64 32]), (12, [.i .i64 0, .i .i64 16]), (1, [.i .i64 0, .i .i64 24]), (0, [.i .i64 24, .i .i64 2])]
theorem sp {σ : Nat → Int} {pc : PC} {G : Prop} (a : At) (l : Sat σ ((a, true) :: pc) → G) (r : Sat σ ((a, false) :: pc) → G) (hs : Sat σ pc) : G := by
  cases h : a.ev σ with
  | true => exact l ⟨h, hs⟩
  | false => exact r ⟨h, hs⟩
end Go.Proofs.YthackiallbgeaaaGreatDoor.LeafFabricNone
