/-
  THE ROW 'DedupNone': every input, by the abstract machine's soundness and its pure law.
-/
import Derived.Test.YtgjhicaiibomeaaRows
import Derived.Test.YtgjhicaiibomeaaPureDedupNone
import Derived.Test.YtgjhicaiibomeaaMxQ
import Derived.WalkKit
import Derived.ProofKit
import Derived.JoinedOf
namespace Go.Proofs.Ytgjhicaiibomeaa.dedupNone
open Go.ChangeShapes Go.WideShapes Go.ChangeAt Go.RowKit
theorem own : ownKnob Try.prog.godebug = none := by kernel_rfl
set_option maxRecDepth 100000 in
theorem lifted (os : Os) (started : os.Started) (H : Type) (enc : TypeId × Value → H) :
    ReturnsInHanded {} Try.checked os 15 .any (Rows.dedupNoneSpec.pre6 enc Try.prog Try.f15 Rows.dedupNoneRow.domain false) (Rows.dedupNoneSpec.post enc Try.prog Try.f15 false true false false) := by
  refine returnsInHanded_of_change_sized (C := Try.checked) own started (by kernel_rfl) Try.func15
    (ChangeSpec.witness6 (enc := enc) (C := Try.checked) false ⟨#[], #[.agg #[.int .i64 0, .int .i64 0, .int .i64 0, .int .i64 0, .int .i64 0, .int .u32 0, .int .i64 0, .bool false, .bool false, .int .i64 0, .int .u32 0], .int .i64 0], []⟩ 8 (by kernel_rfl) (by kernel_rfl) (by kernel_rfl) (by kernel_rfl)) ?_
  intro W base args ds gs before hval hW _ _ _
  exact Mx.law_contract (P := Try.prog) (fn := Try.f15) (s := Rows.dedupNoneSpec) (tb := 4) IrDedupNone.prog rfl PureDedupNone.aks (by kernel_rfl) (by kernel_rfl) (by kernel_rfl) (by kernel_rfl)
    (fun ds h => match ds, h with | [d1, d2], _ => rfl) PureDedupNone.law W base args ds gs before hval hW
theorem over : Rows.dedupNoneRow.holds Try.pinned (OpenSpec.ofChange Rows.dedupNoneSpec) :=
  OpenClaim.holds_of_wide 15 Try.f15 rfl rfl rfl rfl rfl rfl rfl ⟨rfl, rfl, rfl, rfl, rfl⟩ rfl rfl rfl rfl rfl (by kernel_rfl) Try.func15 (by kernel_rfl)
    (of_decide_eq_true (by kernel_rfl)) (by unfold Func.isWrapper; first | (rw [if_pos (by decide +kernel)]; kernel_rfl) | (rw [if_neg (by decide +kernel)]; exact ⟨rfl, rfl⟩))
    (fun os started H enc _ => lifted os started H enc)
theorem proved : Rows.DedupNoneSaid := over
#print axioms proved
end Go.Proofs.Ytgjhicaiibomeaa.dedupNone
namespace Go.Proofs.Ytgjhicaiibomeaa
/-- The row, under a short name, for the claim. -/
theorem dedupNone_holds : Rows.DedupNoneSaid := dedupNone.proved
end Go.Proofs.Ytgjhicaiibomeaa
