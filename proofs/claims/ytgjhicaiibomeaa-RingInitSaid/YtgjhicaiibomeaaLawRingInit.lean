/-
  THE ROW 'RingInit': every input, by the abstract machine's soundness and its pure law.
-/
import Derived.Test.YtgjhicaiibomeaaRows
import Derived.Test.YtgjhicaiibomeaaPureRingInit
import Derived.Test.YtgjhicaiibomeaaMxQ
import Derived.WalkKit
import Derived.ProofKit
import Derived.JoinedOf
namespace Go.Proofs.Ytgjhicaiibomeaa.ringInit
open Go.ChangeShapes Go.WideShapes Go.ChangeAt Go.RowKit
theorem own : ownKnob Try.prog.godebug = none := by kernel_rfl
set_option maxRecDepth 100000 in
theorem lifted (os : Os) (started : os.Started) (H : Type) (enc : TypeId × Value → H) :
    ReturnsInHanded {} Try.checked os 10 .any (Rows.ringInitSpec.pre6 enc Try.prog Try.f10 Rows.ringInitRow.domain false) (Rows.ringInitSpec.post enc Try.prog Try.f10 false true false false) := by
  refine returnsInHanded_of_change_sized (C := Try.checked) own started (by kernel_rfl) Try.func10
    (ChangeSpec.witness6 (enc := enc) (C := Try.checked) false ⟨#[], #[.int .i64 0, .int .i64 0, .int .i64 0], []⟩ 8 (by kernel_rfl) (by kernel_rfl) (by kernel_rfl) (by kernel_rfl)) ?_
  intro W base args ds gs before hval hW _ _ _
  exact Mx.law_contract (P := Try.prog) (fn := Try.f10) (s := Rows.ringInitSpec) (tb := 4) IrRingInit.prog rfl PureRingInit.aks (by kernel_rfl) (by kernel_rfl) (by kernel_rfl) (by kernel_rfl)
    (fun ds h => match ds, h with | [d1, d2, d3], _ => rfl) PureRingInit.law W base args ds gs before hval hW
theorem over : Rows.ringInitRow.holds Try.pinned (OpenSpec.ofChange Rows.ringInitSpec) :=
  OpenClaim.holds_of_wide 10 Try.f10 rfl rfl rfl rfl rfl rfl rfl ⟨rfl, rfl, rfl, rfl, rfl⟩ rfl rfl rfl rfl rfl (by kernel_rfl) Try.func10 (by kernel_rfl)
    (of_decide_eq_true (by kernel_rfl)) (by unfold Func.isWrapper; first | (rw [if_pos (by decide +kernel)]; kernel_rfl) | (rw [if_neg (by decide +kernel)]; exact ⟨rfl, rfl⟩))
    (fun os started H enc _ => lifted os started H enc)
theorem proved : Rows.RingInitSaid := over
#print axioms proved
end Go.Proofs.Ytgjhicaiibomeaa.ringInit
namespace Go.Proofs.Ytgjhicaiibomeaa
/-- The row, under a short name, for the claim. -/
theorem ringInit_holds : Rows.RingInitSaid := ringInit.proved
end Go.Proofs.Ytgjhicaiibomeaa
