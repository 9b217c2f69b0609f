/-
  THE ROW 'ChunksNone': every input, by the abstract machine's soundness and its pure law.
-/
import Derived.Test.YtgjhicaiibomeaaRows
import Derived.Test.YtgjhicaiibomeaaPureChunksNone
import Derived.Test.YtgjhicaiibomeaaMxQ
import Derived.WalkKit
import Derived.ProofKit
import Derived.JoinedOf
namespace Go.Proofs.Ytgjhicaiibomeaa.chunksNone
open Go.ChangeShapes Go.WideShapes Go.ChangeAt Go.RowKit
theorem own : ownKnob Try.prog.godebug = none := by kernel_rfl
set_option maxRecDepth 100000 in
theorem lifted (os : Os) (started : os.Started) (H : Type) (enc : TypeId × Value → H) :
    ReturnsInHanded {} Try.checked os 5 .any (Rows.chunksNoneSpec.pre6 enc Try.prog Try.f5 Rows.chunksNoneRow.domain false) (Rows.chunksNoneSpec.post enc Try.prog Try.f5 false true false false) := by
  refine returnsInHanded_of_change_sized (C := Try.checked) own started (by kernel_rfl) Try.func5
    (ChangeSpec.witness6 (enc := enc) (C := Try.checked) false ⟨#[], #[.int .i64 0, .int .u32 0], []⟩ 8 (by kernel_rfl) (by kernel_rfl) (by kernel_rfl) (by kernel_rfl)) ?_
  intro W base args ds gs before hval hW _ _ _
  exact Mx.law_contract (P := Try.prog) (fn := Try.f5) (s := Rows.chunksNoneSpec) (tb := 4) IrChunksNone.prog rfl PureChunksNone.aks (by kernel_rfl) (by kernel_rfl) (by kernel_rfl) (by kernel_rfl)
    (fun ds h => match ds, h with | [d1, d2], _ => rfl) PureChunksNone.law W base args ds gs before hval hW
theorem over : Rows.chunksNoneRow.holds Try.pinned (OpenSpec.ofChange Rows.chunksNoneSpec) :=
  OpenClaim.holds_of_wide 5 Try.f5 rfl rfl rfl rfl rfl rfl rfl ⟨rfl, rfl, rfl, rfl, rfl⟩ rfl rfl rfl rfl rfl (by kernel_rfl) Try.func5 (by kernel_rfl)
    (of_decide_eq_true (by kernel_rfl)) (by unfold Func.isWrapper; first | (rw [if_pos (by decide +kernel)]; kernel_rfl) | (rw [if_neg (by decide +kernel)]; exact ⟨rfl, rfl⟩))
    (fun os started H enc _ => lifted os started H enc)
theorem proved : Rows.ChunksNoneSaid := over
#print axioms proved
end Go.Proofs.Ytgjhicaiibomeaa.chunksNone
namespace Go.Proofs.Ytgjhicaiibomeaa
/-- The row, under a short name, for the claim. -/
theorem chunksNone_holds : Rows.ChunksNoneSaid := chunksNone.proved
end Go.Proofs.Ytgjhicaiibomeaa
