/-
  THE ROW 'PumpFair': every input, by the abstract machine's soundness and its pure law.
-/
import Derived.Test.YtgjhicaiibomeaaRows
import Derived.Test.YtgjhicaiibomeaaPurePumpFair
import Derived.Test.YtgjhicaiibomeaaMxQ
import Derived.WalkKit
import Derived.ProofKit
import Derived.JoinedOf
namespace Go.Proofs.Ytgjhicaiibomeaa.pumpFair
open Go.ChangeShapes Go.WideShapes Go.ChangeAt Go.RowKit
theorem own : ownKnob Try.prog.godebug = none := by kernel_rfl
set_option maxRecDepth 100000 in
theorem lifted (os : Os) (started : os.Started) (H : Type) (enc : TypeId × Value → H) :
    ReturnsInHanded {} Try.checked os 7 .any (Rows.pumpFairSpec.pre6 enc Try.prog Try.f7 Rows.pumpFairRow.domain false) (Rows.pumpFairSpec.post enc Try.prog Try.f7 false true false false) := by
  refine returnsInHanded_of_change_sized (C := Try.checked) own started (by kernel_rfl) Try.func7
    (ChangeSpec.witness6 (enc := enc) (C := Try.checked) false ⟨#[], #[.int .i64 0, .bool false], []⟩ 8 (by kernel_rfl) (by kernel_rfl) (by kernel_rfl) (by kernel_rfl)) ?_
  intro W base args ds gs before hval hW _ _ _
  exact Mx.law_contract (P := Try.prog) (fn := Try.f7) (s := Rows.pumpFairSpec) (tb := 4) IrPumpFair.prog rfl PurePumpFair.aks (by kernel_rfl) (by kernel_rfl) (by kernel_rfl) (by kernel_rfl)
    (fun ds h => match ds, h with | [d1, d2], _ => rfl) PurePumpFair.law W base args ds gs before hval hW
theorem over : Rows.pumpFairRow.holds Try.pinned (OpenSpec.ofChange Rows.pumpFairSpec) :=
  OpenClaim.holds_of_wide 7 Try.f7 rfl rfl rfl rfl rfl rfl rfl ⟨rfl, rfl, rfl, rfl, rfl⟩ rfl rfl rfl rfl rfl (by kernel_rfl) Try.func7 (by kernel_rfl)
    (of_decide_eq_true (by kernel_rfl)) (by unfold Func.isWrapper; first | (rw [if_pos (by decide +kernel)]; kernel_rfl) | (rw [if_neg (by decide +kernel)]; exact ⟨rfl, rfl⟩))
    (fun os started H enc _ => lifted os started H enc)
theorem proved : Rows.PumpFairSaid := over
#print axioms proved
end Go.Proofs.Ytgjhicaiibomeaa.pumpFair
namespace Go.Proofs.Ytgjhicaiibomeaa
/-- The row, under a short name, for the claim. -/
theorem pumpFair_holds : Rows.PumpFairSaid := pumpFair.proved
end Go.Proofs.Ytgjhicaiibomeaa
