/-
  THE ROW 'RecordNone': every input, by the abstract machine's soundness and its pure law.
-/
import Derived.Test.YtgjhicaiibomeaaRows
import Derived.Test.YtgjhicaiibomeaaPureRecordNone
import Derived.Test.YtgjhicaiibomeaaMxQ
import Derived.WalkKit
import Derived.ProofKit
import Derived.JoinedOf
namespace Go.Proofs.Ytgjhicaiibomeaa.recordNone
open Go.ChangeShapes Go.WideShapes Go.ChangeAt Go.RowKit
theorem own : ownKnob Try.prog.godebug = none := by kernel_rfl
set_option maxRecDepth 100000 in
theorem lifted (os : Os) (started : os.Started) (H : Type) (enc : TypeId × Value → H) :
    ReturnsInHanded {} Try.checked os 6 .any (Rows.recordNoneSpec.pre6 enc Try.prog Try.f6 Rows.recordNoneRow.domain false) (Rows.recordNoneSpec.post enc Try.prog Try.f6 false true false false) := by
  refine returnsInHanded_of_change_sized (C := Try.checked) own started (by kernel_rfl) Try.func6
    (ChangeSpec.witness6 (enc := enc) (C := Try.checked) false ⟨#[], #[.int .u32 0, .int .i64 0, .int .i64 0], []⟩ 8 (by kernel_rfl) (by kernel_rfl) (by kernel_rfl) (by kernel_rfl)) ?_
  intro W base args ds gs before hval hW _ _ _
  exact Mx.law_contract (P := Try.prog) (fn := Try.f6) (s := Rows.recordNoneSpec) (tb := 4) IrRecordNone.prog rfl PureRecordNone.aks (by kernel_rfl) (by kernel_rfl) (by kernel_rfl) (by kernel_rfl)
    (fun ds h => match ds, h with | [d1, d2, d3], _ => rfl) PureRecordNone.law W base args ds gs before hval hW
theorem over : Rows.recordNoneRow.holds Try.pinned (OpenSpec.ofChange Rows.recordNoneSpec) :=
  OpenClaim.holds_of_wide 6 Try.f6 rfl rfl rfl rfl rfl rfl rfl ⟨rfl, rfl, rfl, rfl, rfl⟩ rfl rfl rfl rfl rfl (by kernel_rfl) Try.func6 (by kernel_rfl)
    (of_decide_eq_true (by kernel_rfl)) (by unfold Func.isWrapper; first | (rw [if_pos (by decide +kernel)]; kernel_rfl) | (rw [if_neg (by decide +kernel)]; exact ⟨rfl, rfl⟩))
    (fun os started H enc _ => lifted os started H enc)
theorem proved : Rows.RecordNoneSaid := over
#print axioms proved
end Go.Proofs.Ytgjhicaiibomeaa.recordNone
namespace Go.Proofs.Ytgjhicaiibomeaa
/-- The row, under a short name, for the claim. -/
theorem recordNone_holds : Rows.RecordNoneSaid := recordNone.proved
end Go.Proofs.Ytgjhicaiibomeaa
