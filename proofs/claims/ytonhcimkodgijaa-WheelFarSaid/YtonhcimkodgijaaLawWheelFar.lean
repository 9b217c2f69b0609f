/-
  THE ROW 'WheelFar': every input, by the abstract machine's soundness and its pure law.
-/
import Derived.Test.YtonhcimkodgijaaRows
import Derived.Test.YtonhcimkodgijaaPureWheelFar
import Derived.Test.YtonhcimkodgijaaMxQ
import Derived.WalkKit
import Derived.ProofKit
import Derived.JoinedOf
namespace Go.Proofs.Ytonhcimkodgijaa.wheelFar
open Go.ChangeShapes Go.WideShapes Go.ChangeAt Go.RowKit
theorem own : ownKnob Try.prog.godebug = none := by kernel_rfl
set_option maxRecDepth 100000 in
theorem lifted (os : Os) (started : os.Started) (H : Type) (enc : TypeId × Value → H) :
    ReturnsInHanded {} Try.checked os 8 .any (Rows.wheelFarSpec.pre6 enc Try.prog Try.f8 Rows.wheelFarRow.domain false) (Rows.wheelFarSpec.post enc Try.prog Try.f8 false true false false) := by
  refine returnsInHanded_of_change_sized (C := Try.checked) own started (by kernel_rfl) Try.func8
    (ChangeSpec.witness6 (enc := enc) (C := Try.checked) false ⟨#[], #[.int .i64 0, .int .i64 0, .slice none 0 0], []⟩ 8 (by kernel_rfl) (by kernel_rfl) (by kernel_rfl) (by kernel_rfl)) ?_
  intro W base args ds gs before hval hW _ _ _
  exact Mx.law_contract (P := Try.prog) (fn := Try.f8) (s := Rows.wheelFarSpec) (tb := 4) IrWheelFar.prog rfl PureWheelFar.aks (by kernel_rfl) (by kernel_rfl) (by kernel_rfl) (by kernel_rfl)
    (fun ds h => match ds, h with | [d1, d2, d3], _ => rfl) PureWheelFar.law W base args ds gs before hval hW
theorem over : Rows.wheelFarRow.holds Try.pinned (OpenSpec.ofChange Rows.wheelFarSpec) :=
  OpenClaim.holds_of_wide 8 Try.f8 rfl rfl rfl rfl rfl rfl rfl ⟨rfl, rfl, rfl, rfl, rfl⟩ rfl rfl rfl rfl rfl (by kernel_rfl) Try.func8 (by kernel_rfl)
    (of_decide_eq_true (by kernel_rfl)) (by unfold Func.isWrapper; first | (rw [if_pos (by decide +kernel)]; kernel_rfl) | (rw [if_neg (by decide +kernel)]; exact ⟨rfl, rfl⟩))
    (fun os started H enc _ => lifted os started H enc)
theorem proved : Rows.WheelFarSaid := over
#print axioms proved
end Go.Proofs.Ytonhcimkodgijaa.wheelFar
namespace Go.Proofs.Ytonhcimkodgijaa
/-- The row, under a short name, for the claim. -/
theorem wheelFar_holds : Rows.WheelFarSaid := wheelFar.proved
end Go.Proofs.Ytonhcimkodgijaa
