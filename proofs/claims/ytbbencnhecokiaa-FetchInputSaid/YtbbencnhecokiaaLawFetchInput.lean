/-
  THE ROW 'FetchInput': every input, by the abstract machine's soundness and its pure law.
-/
import Derived.Test.YtbbencnhecokiaaRows
import Derived.Test.YtbbencnhecokiaaPureFetchInput
import Derived.Test.YtbbencnhecokiaaMxQ
import Derived.WalkKit
import Derived.ProofKit
import Derived.JoinedOf
namespace Go.Proofs.Ytbbencnhecokiaa.fetchInput
open Go.ChangeShapes Go.WideShapes Go.ChangeAt Go.RowKit
theorem own : ownKnob Try.prog.godebug = none := by kernel_rfl
set_option maxRecDepth 100000 in
theorem lifted (os : Os) (started : os.Started) (H : Type) (enc : TypeId × Value → H) :
    ReturnsInHanded {} Try.checked os 6 .any (Rows.fetchInputSpec.pre6 enc Try.prog Try.f6 Rows.fetchInputRow.domain false) (Rows.fetchInputSpec.post enc Try.prog Try.f6 false true false false) := by
  refine returnsInHanded_of_change_sized (C := Try.checked) own started (by kernel_rfl) Try.func6
    (ChangeSpec.witness6 (enc := enc) (C := Try.checked) false ⟨#[], #[.agg #[.int .i64 0, .int .i64 0], .int .u64 0], []⟩ 8 (by kernel_rfl) (by kernel_rfl) (by kernel_rfl) (by kernel_rfl)) ?_
  intro W base args ds gs before hval hW _ _ _
  exact Mx.law_contract (P := Try.prog) (fn := Try.f6) (s := Rows.fetchInputSpec) (tb := 4) IrFetchInput.prog rfl PureFetchInput.aks (by kernel_rfl) (by kernel_rfl) (by kernel_rfl) (by kernel_rfl)
    (fun ds h => match ds, h with | [d1, d2], _ => rfl) PureFetchInput.law W base args ds gs before hval hW
theorem over : Rows.fetchInputRow.holds Try.pinned (OpenSpec.ofChange Rows.fetchInputSpec) :=
  OpenClaim.holds_of_wide 6 Try.f6 rfl rfl rfl rfl rfl rfl rfl ⟨rfl, rfl, rfl, rfl, rfl⟩ rfl rfl rfl rfl rfl (by kernel_rfl) Try.func6 (by kernel_rfl)
    (of_decide_eq_true (by kernel_rfl)) (by unfold Func.isWrapper; first | (rw [if_pos (by decide +kernel)]; kernel_rfl) | (rw [if_neg (by decide +kernel)]; exact ⟨rfl, rfl⟩))
    (fun os started H enc _ => lifted os started H enc)
theorem proved : Rows.FetchInputSaid := over
#print axioms proved
end Go.Proofs.Ytbbencnhecokiaa.fetchInput
namespace Go.Proofs.Ytbbencnhecokiaa
/-- The row, under a short name, for the claim. -/
theorem fetchInput_holds : Rows.FetchInputSaid := fetchInput.proved
end Go.Proofs.Ytbbencnhecokiaa
