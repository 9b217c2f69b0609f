/-
  THE ROW 'SendInput': every input, by the abstract machine's soundness and its pure law.
-/
import Derived.Test.YtbbencnhecokiaaRows
import Derived.Test.YtbbencnhecokiaaPureSendInput
import Derived.Test.YtbbencnhecokiaaMxQ
import Derived.WalkKit
import Derived.ProofKit
import Derived.JoinedOf
namespace Go.Proofs.Ytbbencnhecokiaa.sendInput
open Go.ChangeShapes Go.WideShapes Go.ChangeAt Go.RowKit
theorem own : ownKnob Try.prog.godebug = none := by kernel_rfl
set_option maxRecDepth 100000 in
theorem lifted (os : Os) (started : os.Started) (H : Type) (enc : TypeId × Value → H) :
    ReturnsInHanded {} Try.checked os 3 .any (Rows.sendInputSpec.pre6 enc Try.prog Try.f3 Rows.sendInputRow.domain false) (Rows.sendInputSpec.post enc Try.prog Try.f3 false true false false) := by
  refine returnsInHanded_of_change_sized (C := Try.checked) own started (by kernel_rfl) Try.func3
    (ChangeSpec.witness6 (enc := enc) (C := Try.checked) false ⟨#[], #[.agg #[.int .i64 0, .int .i64 0], .agg #[.int .u64 0, .int .u64 0, .int .u64 0], .int .u64 0], []⟩ 8 (by kernel_rfl) (by kernel_rfl) (by kernel_rfl) (by kernel_rfl)) ?_
  intro W base args ds gs before hval hW _ _ _
  exact Mx.law_contract (P := Try.prog) (fn := Try.f3) (s := Rows.sendInputSpec) (tb := 4) IrSendInput.prog rfl PureSendInput.aks (by kernel_rfl) (by kernel_rfl) (by kernel_rfl) (by kernel_rfl)
    (fun ds h => match ds, h with | [d1, d2, d3], _ => rfl) PureSendInput.law W base args ds gs before hval hW
theorem over : Rows.sendInputRow.holds Try.pinned (OpenSpec.ofChange Rows.sendInputSpec) :=
  OpenClaim.holds_of_wide 3 Try.f3 rfl rfl rfl rfl rfl rfl rfl ⟨rfl, rfl, rfl, rfl, rfl⟩ rfl rfl rfl rfl rfl (by kernel_rfl) Try.func3 (by kernel_rfl)
    (of_decide_eq_true (by kernel_rfl)) (by unfold Func.isWrapper; first | (rw [if_pos (by decide +kernel)]; kernel_rfl) | (rw [if_neg (by decide +kernel)]; exact ⟨rfl, rfl⟩))
    (fun os started H enc _ => lifted os started H enc)
theorem proved : Rows.SendInputSaid := over
#print axioms proved
end Go.Proofs.Ytbbencnhecokiaa.sendInput
namespace Go.Proofs.Ytbbencnhecokiaa
/-- The row, under a short name, for the claim. -/
theorem sendInput_holds : Rows.SendInputSaid := sendInput.proved
end Go.Proofs.Ytbbencnhecokiaa
