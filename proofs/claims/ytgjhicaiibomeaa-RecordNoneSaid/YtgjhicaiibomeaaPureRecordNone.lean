/-
  The pure law of RecordNone: the abstract machine finds it true at every input.
-/
import Derived.Test.YtgjhicaiibomeaaIrRecordNone
import Derived.Test.YtgjhicaiibomeaaMxR
import Derived.KernelRfl
namespace Go.Proofs.Ytgjhicaiibomeaa.PureRecordNone
open Go Mx Go.Proofs.Ytgjhicaiibomeaa
set_option linter.unusedVariables false
def shape : List AK := [.pl false [.i .u32], .pl false [.i .i64], .pl false [.i .i64]]
theorem aks : aksOf Try.prog Try.f6.params.toList = some shape := by kernel_rfl
theorem main (call : Int) (slot : Int) (gen : Int) (wcall : (Lit.int .u32 call).wf = true) (wslot : (Lit.int .i64 slot).wf = true) (wgen : (Lit.int .i64 gen).wf = true) : Fnc IrRecordNone.IP 6 [.i .u32 call, .i .i64 slot, .i .i64 gen] ⟨0, .l⟩ (fun v _ => v = .b true) :=
  Fnc_true 60 (by kernel_rfl)
theorem law : ∀ vs h, ArgsOK shape ⟨0, .l⟩ vs h → ∃ k h', ev IrRecordNone.IP k 6 vs h = some (.b true, h') := by
  rintro vs h ⟨_, _, ⟨_, _, rfl, ⟨call, rfl, wcall⟩, rfl⟩, rfl, _, _, ⟨_, _, rfl, ⟨slot, rfl, wslot⟩, rfl⟩, rfl, _, _, ⟨_, _, rfl, ⟨gen, rfl, wgen⟩, rfl⟩, rfl, rfl, rfl⟩
  exact law_of_fnc (main call slot gen wcall wslot wgen)
end Go.Proofs.Ytgjhicaiibomeaa.PureRecordNone
