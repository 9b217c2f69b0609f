/-
  THE ROW 'ClockNone', AND ITS TIED CARD: every input, where the listed package variables read as they are laid, by the abstract machine's soundness and its pure law; the tie is the given one.
-/
import Derived.Test.YtbbencnhecokiaaDoorRows
import Derived.Test.YtbbencnhecokiaaDoorCards
import Derived.Test.YtbbencnhecokiaaDoorTie
import Derived.Test.YtbbencnhecokiaaDoorPureClockNone
import Derived.Test.YtbbencnhecokiaaDoorMxW
import Derived.WalkKit
import Derived.ProofKit
import Derived.JoinedOf
import Derived.ChangeSame
import Derived.ChangeVars
import Derived.RowKit
import Derived.RowKitTokens
import Derived.LaidLaws
import Derived.LaidMore
import Derived.LaidHandle
import Derived.SevenTiedAt
import Derived.Stop.Joined
namespace Go.Proofs.YtbbencnhecokiaaDoor.clockNone
open Go.ChangeShapes Go.WideShapes Go.ChangeAt Go.RowKit
theorem own : ownKnob Tryd.prog.godebug = none := by kernel_rfl
theorem rowsOf : Mx.laidRows Tryd.prog Rows.clockNoneRow.laid = some PureClockNone.rows := by kernel_rfl
theorem door_met (os : Os) (args : Array Value) : laidMetH Tryd.prog Rows.clockNoneRow.laid ((World.doorLaid Tryd.prog 400 os).forCall (fun _ _ => 0) ⟨#[], args, []⟩).memory :=
  laidMetH_of_parts3 (fuel := 8) (laidMet_of_run' 8 (by kernel_rfl) (by kernel_rfl)) (by kernel_rfl) (by kernel_rfl)
set_option maxRecDepth 100000 in
theorem lifted (os : Os) (started : os.Started) (H : Type) (enc : TypeId × Value → H) :
    ReturnsInHanded {} Tryd.checked os 5 .any (fun w args => (Rows.clockNoneSpec.pre enc Tryd.prog Tryd.f5 [] false w args ∧ laidMetH Tryd.prog Rows.clockNoneRow.laid w) ∧ sizedMet enc Tryd.prog Tryd.f5 (OpenSpec.ofChange Rows.clockNoneSpec) false w args)
      (Rows.clockNoneSpec.post enc Tryd.prog Tryd.f5 false true false false) := by
  refine returnsInHanded_of_change_and (C := Tryd.checked) (X := fun w _ => laidMetH Tryd.prog Rows.clockNoneRow.laid w) (fun _ _ _ hh h => h.of_heap hh) own started (by kernel_rfl) Tryd.func5
    (ChangeSpec.witness_shaped (enc := enc) (C := Tryd.checked) (os := os) (X := fun w _ => laidMetH Tryd.prog Rows.clockNoneRow.laid w) false (World.doorLaid Tryd.prog 400 os) #[.int .i64 0, .int .i64 0] 8 rfl (World.shaped_of_RefB (by kernel_rfl) (by kernel_rfl)) (by kernel_rfl) (by kernel_rfl) (by kernel_rfl) (door_met os _)) ?_
  intro W base args ds gs before hval hW _ _ hL _
  exact Mx.law_contract_g (P := Tryd.prog) (fn := Tryd.f5) (s := Rows.clockNoneSpec) (tb := 4) IrClockNone.prog (laid := Rows.clockNoneRow.laid) (by kernel_rfl) rowsOf (by kernel_rfl) rfl PureClockNone.aks (by kernel_rfl) (by kernel_rfl) (by kernel_rfl) (by kernel_rfl)
    (fun ds h => match ds, h with | [d1, d2], _ => rfl) PureClockNone.law W base args ds gs before hL hval hW
theorem over : Rows.clockNoneRow.holds Tryd.pinned (OpenSpec.ofChange Rows.clockNoneSpec) :=
  OpenClaim.holds_of_wide 5 Tryd.f5 rfl rfl rfl rfl rfl rfl rfl ⟨rfl, rfl, rfl, rfl, rfl⟩ rfl rfl rfl rfl rfl (by kernel_rfl) Tryd.func5 (by kernel_rfl)
    (of_decide_eq_true (by kernel_rfl)) (by unfold Func.isWrapper; first | (rw [if_pos (by decide +kernel)]; kernel_rfl) | (rw [if_neg (by decide +kernel)]; exact ⟨rfl, rfl⟩))
    (fun os started H enc _ => lifted os started H enc)
theorem named : Tryd.prog.funcNamed "cableway/cablewaylaw31.ClockNone" = some 5 := by kernel_rfl
theorem noStand : (Tryd.f5.params.toList.all fun t => !Tryd.prog.wantsStandIn t) = true := by kernel_rfl
theorem proved : Rows.ClockNoneCardSaid :=
  Claim7.holds_tied_plain_at .later [] [.wider, .wider, .wider, .wider, .wider, .wider, .wider, .wider, .data, .wider, .data] true (true, "ca46b9741ed1a31d56d38c0facefe1d0dc41a57fcd91ba2f605baa9f1d0278b7") false
    over (fun _ h => by cases h) (by kernel_rfl) (fun _ h => by cases h) clockNone_row_tie rfl ⟨rfl, rfl⟩ (by kernel_rfl) (by kernel_rfl)
    (fun f fn hf hfn => by
      obtain rfl : f = 5 := (Option.some.inj (named.symm.trans hf)).symm
      obtain rfl : fn = Tryd.f5 := (Option.some.inj (Tryd.func5.symm.trans hfn)).symm
      exact ⟨by kernel_rfl, fun j t ht => by
        have := List.all_eq_true.1 noStand t (List.mem_of_getElem? (i := j) (by simpa using ht))
        exact (show Tryd.prog.wantsStandIn t = false from by simpa using this)⟩)
    (by kernel_rfl)
#print axioms proved
end Go.Proofs.YtbbencnhecokiaaDoor.clockNone
namespace Go.Proofs.YtbbencnhecokiaaDoor
/-- The tied card, under a short name, for the claim. -/
theorem clockNone_holds : Rows.ClockNoneCardSaid := clockNone.proved
end Go.Proofs.YtbbencnhecokiaaDoor
