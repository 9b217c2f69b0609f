/-
  THE ROW 'ServerNone': every input, by the abstract machine's soundness and its pure law.
-/
import Derived.Test.YtbbencnhecokiaaRows
import Derived.Test.YtbbencnhecokiaaPureServerNone
import Derived.Test.YtbbencnhecokiaaMxQ
import Derived.WalkKit
import Derived.ProofKit
import Derived.JoinedOf
namespace Go.Proofs.Ytbbencnhecokiaa.serverNone
open Go.ChangeShapes Go.WideShapes Go.ChangeAt Go.RowKit
theorem own : ownKnob Try.prog.godebug = none := by kernel_rfl
set_option maxRecDepth 100000 in
theorem lifted (os : Os) (started : os.Started) (H : Type) (enc : TypeId × Value → H) :
    ReturnsInHanded {} Try.checked os 11 .any (Rows.serverNoneSpec.pre6 enc Try.prog Try.f11 Rows.serverNoneRow.domain false) (Rows.serverNoneSpec.post enc Try.prog Try.f11 false true false false) := by
  refine returnsInHanded_of_change_sized (C := Try.checked) own started (by kernel_rfl) Try.func11
    (ChangeSpec.witness6 (enc := enc) (C := Try.checked) false ⟨#[], #[.int .i64 0, .int .i64 0, .agg #[.int .i64 0, .int .i64 0, .int .i64 0, .int .i64 0, .int .i64 0, .int .u32 0, .int .i64 0, .bool false, .bool false, .int .i64 0, .int .u32 0]], []⟩ 8 (by kernel_rfl) (by kernel_rfl) (by kernel_rfl) (by kernel_rfl)) ?_
  intro W base args ds gs before hval hW _ _ _
  exact Mx.law_contract (P := Try.prog) (fn := Try.f11) (s := Rows.serverNoneSpec) (tb := 4) IrServerNone.prog rfl PureServerNone.aks (by kernel_rfl) (by kernel_rfl) (by kernel_rfl) (by kernel_rfl)
    (fun ds h => match ds, h with | [d1, d2, d3], _ => rfl) PureServerNone.law W base args ds gs before hval hW
theorem over : Rows.serverNoneRow.holds Try.pinned (OpenSpec.ofChange Rows.serverNoneSpec) :=
  OpenClaim.holds_of_wide 11 Try.f11 rfl rfl rfl rfl rfl rfl rfl ⟨rfl, rfl, rfl, rfl, rfl⟩ rfl rfl rfl rfl rfl (by kernel_rfl) Try.func11 (by kernel_rfl)
    (of_decide_eq_true (by kernel_rfl)) (by unfold Func.isWrapper; first | (rw [if_pos (by decide +kernel)]; kernel_rfl) | (rw [if_neg (by decide +kernel)]; exact ⟨rfl, rfl⟩))
    (fun os started H enc _ => lifted os started H enc)
theorem proved : Rows.ServerNoneSaid := over
#print axioms proved
end Go.Proofs.Ytbbencnhecokiaa.serverNone
namespace Go.Proofs.Ytbbencnhecokiaa
/-- The row, under a short name, for the claim. -/
theorem serverNone_holds : Rows.ServerNoneSaid := serverNone.proved
end Go.Proofs.Ytbbencnhecokiaa
