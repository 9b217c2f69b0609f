/-
  The pure law of ChunksNone: the abstract machine finds it true at every input.
-/
import Derived.Test.YtgjhicaiibomeaaIrChunksNone
import Derived.Test.YtgjhicaiibomeaaMxP
import Derived.KernelRfl
namespace Go.Proofs.Ytgjhicaiibomeaa.PureChunksNone
open Go Mx Go.Proofs.Ytgjhicaiibomeaa
def shape : List AK := [.pl false [.i .i64], .pl false [.i .u32]]
theorem aks : aksOf Try.prog Try.f5.params.toList = some shape := by kernel_rfl
theorem fin (seq : Int) (v : Int) : (ev IrChunksNone.IP 30 5 [.i .i64 seq, .i .u32 v] ⟨0, .l⟩).map (·.1) = some (.b true) := by kernel_rfl
theorem law : ∀ vs h, ArgsOK shape ⟨0, .l⟩ vs h → ∃ k h', ev IrChunksNone.IP k 5 vs h = some (.b true, h') := by
  rintro vs h ⟨_, _, ⟨_, _, rfl, ⟨seq, rfl, _⟩, rfl⟩, rfl, _, _, ⟨_, _, rfl, ⟨v, rfl, _⟩, rfl⟩, rfl, rfl, rfl⟩
  have := fin seq v
  cases hev : ev IrChunksNone.IP 30 5 [.i .i64 seq, .i .u32 v] ⟨0, .l⟩ with
  | none => rw [hev] at this; cases this
  | some r => rw [hev] at this; simp only [Option.map_some, Option.some.injEq] at this; exact ⟨30, r.2, by rw [← this]; exact hev⟩
end Go.Proofs.Ytgjhicaiibomeaa.PureChunksNone
