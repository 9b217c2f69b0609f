/-
  THE ROW 'WheelMost': every input, by the abstract machine's soundness and its pure law.
-/
import Derived.Test.YtonhcimkodgijaaRows
import Derived.Test.YtonhcimkodgijaaPureWheelMost
import Derived.Test.YtonhcimkodgijaaMxQ
import Derived.WalkKit
import Derived.ProofKit
import Derived.JoinedOf
namespace Go.Proofs.Ytonhcimkodgijaa.wheelMost
open Go.ChangeShapes Go.WideShapes Go.ChangeAt Go.RowKit
theorem own : ownKnob Try.prog.godebug = none := by kernel_rfl
set_option maxRecDepth 100000 in
theorem lifted (os : Os) (started : os.Started) (H : Type) (enc : TypeId × Value → H) :
    ReturnsInHanded {} Try.checked os 9 .any (Rows.wheelMostSpec.pre6 enc Try.prog Try.f9 Rows.wheelMostRow.domain false) (Rows.wheelMostSpec.post enc Try.prog Try.f9 false true false false) := by
  refine returnsInHanded_of_change_sized (C := Try.checked) own started (by kernel_rfl) Try.func9
    (ChangeSpec.witness6 (enc := enc) (C := Try.checked) false ⟨#[], #[.int .i64 0, .agg #[.int .i64 0, .int .i64 0, .int .i64 0, .int .i64 0, .int .i64 0]], []⟩ 8 (by kernel_rfl) (by kernel_rfl) (by kernel_rfl) (by kernel_rfl)) ?_
  intro W base args ds gs before hval hW _ _ _
  exact Mx.law_contract (P := Try.prog) (fn := Try.f9) (s := Rows.wheelMostSpec) (tb := 4) IrWheelMost.prog rfl PureWheelMost.aks (by kernel_rfl) (by kernel_rfl) (by kernel_rfl) (by kernel_rfl)
    (fun ds h => match ds, h with | [d1, d2], _ => rfl) PureWheelMost.law W base args ds gs before hval hW
theorem over : Rows.wheelMostRow.holds Try.pinned (OpenSpec.ofChange Rows.wheelMostSpec) :=
  OpenClaim.holds_of_wide 9 Try.f9 rfl rfl rfl rfl rfl rfl rfl ⟨rfl, rfl, rfl, rfl, rfl⟩ rfl rfl rfl rfl rfl (by kernel_rfl) Try.func9 (by kernel_rfl)
    (of_decide_eq_true (by kernel_rfl)) (by unfold Func.isWrapper; first | (rw [if_pos (by decide +kernel)]; kernel_rfl) | (rw [if_neg (by decide +kernel)]; exact ⟨rfl, rfl⟩))
    (fun os started H enc _ => lifted os started H enc)
theorem proved : Rows.WheelMostSaid := over
#print axioms proved
end Go.Proofs.Ytonhcimkodgijaa.wheelMost
namespace Go.Proofs.Ytonhcimkodgijaa
/-- The row, under a short name, for the claim. -/
theorem wheelMost_holds : Rows.WheelMostSaid := wheelMost.proved
end Go.Proofs.Ytonhcimkodgijaa
