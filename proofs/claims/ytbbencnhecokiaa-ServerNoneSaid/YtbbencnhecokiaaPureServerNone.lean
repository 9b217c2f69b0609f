/-
  The pure law of ServerNone: the abstract machine finds it true at every input.
-/
import Derived.Test.YtbbencnhecokiaaIrServerNone
import Derived.Test.YtbbencnhecokiaaMxR
import Derived.KernelRfl
namespace Go.Proofs.Ytbbencnhecokiaa.PureServerNone
open Go Mx Go.Proofs.Ytbbencnhecokiaa
set_option linter.unusedVariables false
def shape : List AK := [.pl false [.i .i64], .pl false [.i .i64], .pl true [.i .i64, .i .i64, .i .i64, .i .i64, .i .i64, .i .u32, .i .i64, .b, .b, .i .i64, .i .u32]]
theorem aks : aksOf Try.prog Try.f11.params.toList = some shape := by kernel_rfl
theorem main (n : Int) (out : Int) (f0 : Int) (f1 : Int) (f2 : Int) (f3 : Int) (f4 : Int) (f5 : Int) (f6 : Int) (f7 : Bool) (f8 : Bool) (f9 : Int) (f10 : Int) (wn : (Lit.int .i64 n).wf = true) (wout : (Lit.int .i64 out).wf = true) (wf0 : (Lit.int .i64 f0).wf = true) (wf1 : (Lit.int .i64 f1).wf = true) (wf2 : (Lit.int .i64 f2).wf = true) (wf3 : (Lit.int .i64 f3).wf = true) (wf4 : (Lit.int .i64 f4).wf = true) (wf5 : (Lit.int .u32 f5).wf = true) (wf6 : (Lit.int .i64 f6).wf = true) (wf9 : (Lit.int .i64 f9).wf = true) (wf10 : (Lit.int .u32 f10).wf = true) : Fnc IrServerNone.IP 11 [.i .i64 n, .i .i64 out, .agg [.i .i64 f0, .i .i64 f1, .i .i64 f2, .i .i64 f3, .i .i64 f4, .i .u32 f5, .i .i64 f6, .b f7, .b f8, .i .i64 f9, .i .u32 f10]] ⟨0, .l⟩ (fun v _ => v = .b true) :=
  Fnc_true 100 (by kernel_rfl)
theorem law : ∀ vs h, ArgsOK shape ⟨0, .l⟩ vs h → ∃ k h', ev IrServerNone.IP k 11 vs h = some (.b true, h') := by
  rintro vs h ⟨_, _, ⟨_, _, rfl, ⟨n, rfl, wn⟩, rfl⟩, rfl, _, _, ⟨_, _, rfl, ⟨out, rfl, wout⟩, rfl⟩, rfl, _, _, ⟨_, _, rfl, ⟨f0, rfl, wf0⟩, ⟨_, _, rfl, ⟨f1, rfl, wf1⟩, ⟨_, _, rfl, ⟨f2, rfl, wf2⟩, ⟨_, _, rfl, ⟨f3, rfl, wf3⟩, ⟨_, _, rfl, ⟨f4, rfl, wf4⟩, ⟨_, _, rfl, ⟨f5, rfl, wf5⟩, ⟨_, _, rfl, ⟨f6, rfl, wf6⟩, ⟨_, _, rfl, ⟨f7, rfl⟩, ⟨_, _, rfl, ⟨f8, rfl⟩, ⟨_, _, rfl, ⟨f9, rfl, wf9⟩, ⟨_, _, rfl, ⟨f10, rfl, wf10⟩, rfl⟩⟩⟩⟩⟩⟩⟩⟩⟩⟩⟩, rfl, rfl, rfl⟩
  exact law_of_fnc (main n out f0 f1 f2 f3 f4 f5 f6 f7 f8 f9 f10 wn wout wf0 wf1 wf2 wf3 wf4 wf5 wf6 wf9 wf10)
end Go.Proofs.Ytbbencnhecokiaa.PureServerNone
