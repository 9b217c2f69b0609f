/-
  THE ROW 'FetchMany': every input, by the abstract machine's soundness and its pure law.
-/
import Derived.Test.YtonhcimkodgijaaRows
import Derived.Test.YtonhcimkodgijaaPureFetchMany
import Derived.Test.YtonhcimkodgijaaMxQ
import Derived.WalkKit
import Derived.ProofKit
import Derived.JoinedOf
namespace Go.Proofs.Ytonhcimkodgijaa.fetchMany
open Go.ChangeShapes Go.WideShapes Go.ChangeAt Go.RowKit
theorem own : ownKnob Try.prog.godebug = none := by kernel_rfl
set_option maxRecDepth 100000 in
theorem lifted (os : Os) (started : os.Started) (H : Type) (enc : TypeId × Value → H) :
    ReturnsInHanded {} Try.checked os 10 .any (Rows.fetchManySpec.pre6 enc Try.prog Try.f10 Rows.fetchManyRow.domain false) (Rows.fetchManySpec.post enc Try.prog Try.f10 false true false false) := by
  refine returnsInHanded_of_change_sized (C := Try.checked) own started (by kernel_rfl) Try.func10
    (ChangeSpec.witness6 (enc := enc) (C := Try.checked) false ⟨#[], #[.slice none 0 0, .int .i64 0], []⟩ 8 (by kernel_rfl) (by kernel_rfl) (by kernel_rfl) (by kernel_rfl)) ?_
  intro W base args ds gs before hval hW _ _ _
  exact Mx.law_contract (P := Try.prog) (fn := Try.f10) (s := Rows.fetchManySpec) (tb := 4) IrFetchMany.prog rfl PureFetchMany.aks (by kernel_rfl) (by kernel_rfl) (by kernel_rfl) (by kernel_rfl)
    (fun ds h => match ds, h with | [d1, d2], _ => rfl) PureFetchMany.law W base args ds gs before hval hW
theorem over : Rows.fetchManyRow.holds Try.pinned (OpenSpec.ofChange Rows.fetchManySpec) :=
  OpenClaim.holds_of_wide 10 Try.f10 rfl rfl rfl rfl rfl rfl rfl ⟨rfl, rfl, rfl, rfl, rfl⟩ rfl rfl rfl rfl rfl (by kernel_rfl) Try.func10 (by kernel_rfl)
    (of_decide_eq_true (by kernel_rfl)) (by unfold Func.isWrapper; first | (rw [if_pos (by decide +kernel)]; kernel_rfl) | (rw [if_neg (by decide +kernel)]; exact ⟨rfl, rfl⟩))
    (fun os started H enc _ => lifted os started H enc)
theorem proved : Rows.FetchManySaid := over
#print axioms proved
end Go.Proofs.Ytonhcimkodgijaa.fetchMany
namespace Go.Proofs.Ytonhcimkodgijaa
/-- The row, under a short name, for the claim. -/
theorem fetchMany_holds : Rows.FetchManySaid := fetchMany.proved
end Go.Proofs.Ytonhcimkodgijaa
