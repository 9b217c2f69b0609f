/-
  THE ROW 'SendAlone': every input, by the abstract machine's soundness and its pure law.
-/
import Derived.Test.YtbbencnhecokiaaRows
import Derived.Test.YtbbencnhecokiaaPureSendAlone
import Derived.Test.YtbbencnhecokiaaMxQ
import Derived.WalkKit
import Derived.ProofKit
import Derived.JoinedOf
namespace Go.Proofs.Ytbbencnhecokiaa.sendAlone
open Go.ChangeShapes Go.WideShapes Go.ChangeAt Go.RowKit
theorem own : ownKnob Try.prog.godebug = none := by kernel_rfl
set_option maxRecDepth 100000 in
theorem lifted (os : Os) (started : os.Started) (H : Type) (enc : TypeId × Value → H) :
    ReturnsInHanded {} Try.checked os 4 .any (Rows.sendAloneSpec.pre6 enc Try.prog Try.f4 Rows.sendAloneRow.domain false) (Rows.sendAloneSpec.post enc Try.prog Try.f4 false true false false) := by
  refine returnsInHanded_of_change_sized (C := Try.checked) own started (by kernel_rfl) Try.func4
    (ChangeSpec.witness6 (enc := enc) (C := Try.checked) false ⟨#[], #[.int .i64 0, .slice none 0 0, .bool false], []⟩ 8 (by kernel_rfl) (by kernel_rfl) (by kernel_rfl) (by kernel_rfl)) ?_
  intro W base args ds gs before hval hW _ _ _
  exact Mx.law_contract (P := Try.prog) (fn := Try.f4) (s := Rows.sendAloneSpec) (tb := 4) IrSendAlone.prog rfl PureSendAlone.aks (by kernel_rfl) (by kernel_rfl) (by kernel_rfl) (by kernel_rfl)
    (fun ds h => match ds, h with | [d1, d2, d3], _ => rfl) PureSendAlone.law W base args ds gs before hval hW
theorem over : Rows.sendAloneRow.holds Try.pinned (OpenSpec.ofChange Rows.sendAloneSpec) :=
  OpenClaim.holds_of_wide 4 Try.f4 rfl rfl rfl rfl rfl rfl rfl ⟨rfl, rfl, rfl, rfl, rfl⟩ rfl rfl rfl rfl rfl (by kernel_rfl) Try.func4 (by kernel_rfl)
    (of_decide_eq_true (by kernel_rfl)) (by unfold Func.isWrapper; first | (rw [if_pos (by decide +kernel)]; kernel_rfl) | (rw [if_neg (by decide +kernel)]; exact ⟨rfl, rfl⟩))
    (fun os started H enc _ => lifted os started H enc)
theorem proved : Rows.SendAloneSaid := over
#print axioms proved
end Go.Proofs.Ytbbencnhecokiaa.sendAlone
namespace Go.Proofs.Ytbbencnhecokiaa
/-- The row, under a short name, for the claim. -/
theorem sendAlone_holds : Rows.SendAloneSaid := sendAlone.proved
end Go.Proofs.Ytbbencnhecokiaa
