/-
  THE ROW 'ClientRefuses', AND ITS TIED CARD: every input, where the listed package variables read as they are laid, by the abstract machine's soundness and its pure law; the tie is the given one.
-/
import Derived.Test.YthackiallbgeaaaGreatDoorRows
import Derived.Test.YthackiallbgeaaaGreatDoorCards
import Derived.Test.YthackiallbgeaaaGreatDoorTie
import Derived.Test.YthackiallbgeaaaGreatDoorPureClientRefuses
import Derived.Test.YthackiallbgeaaaGreatDoorMxW
import Derived.WalkKit
import Derived.ProofKit
import Derived.JoinedOf
import Derived.ChangeSame
import Derived.ChangeVars
import Derived.RowKit
import Derived.RowKitTokens
import Derived.LaidLaws
import Derived.LaidMore
import Derived.LaidHandle
import Derived.SevenTiedAt
import Derived.Stop.Joined
namespace Go.Proofs.YthackiallbgeaaaGreatDoor.clientRefuses
open Go.ChangeShapes Go.WideShapes Go.ChangeAt Go.RowKit
theorem own : ownKnob Tryz.prog.godebug = none := by kernel_rfl
theorem rowsOf : Mx.laidRows Tryz.prog Rows.clientRefusesRow.laid = some PureClientRefuses.rows := by kernel_rfl
theorem door_met (os : Os) (args : Array Value) : laidMetH Tryz.prog Rows.clientRefusesRow.laid ((World.doorLaid Tryz.prog 400 os).forCall (fun _ _ => 0) ⟨#[], args, []⟩).memory :=
  laidMetH_of_parts3 (fuel := 8) (laidMet_of_run' 8 (by kernel_rfl) (by kernel_rfl)) (by kernel_rfl) (by kernel_rfl)
set_option maxRecDepth 100000 in
theorem lifted (os : Os) (started : os.Started) (H : Type) (enc : TypeId × Value → H) :
    ReturnsInHanded {} Tryz.checked os 3 .any (fun w args => (Rows.clientRefusesSpec.pre enc Tryz.prog Tryz.f3 [] false w args ∧ laidMetH Tryz.prog Rows.clientRefusesRow.laid w) ∧ sizedMet enc Tryz.prog Tryz.f3 (OpenSpec.ofChange Rows.clientRefusesSpec) false w args)
      (Rows.clientRefusesSpec.post enc Tryz.prog Tryz.f3 false true false false) := by
  refine returnsInHanded_of_change_and (C := Tryz.checked) (X := fun w _ => laidMetH Tryz.prog Rows.clientRefusesRow.laid w) (fun _ _ _ hh h => h.of_heap hh) own started (by kernel_rfl) Tryz.func3
    (ChangeSpec.witness_shaped (enc := enc) (C := Tryz.checked) (os := os) (X := fun w _ => laidMetH Tryz.prog Rows.clientRefusesRow.laid w) false (World.doorLaid Tryz.prog 400 os) #[.agg #[.int .i64 0, .int .i64 0, .int .i64 0, .int .u32 0, .bool false, .int .i64 0, .int .u32 0], .int .i64 0] 8 rfl (World.shaped_of_RefB (by kernel_rfl) (by kernel_rfl)) (by kernel_rfl) (by kernel_rfl) (by kernel_rfl) (door_met os _)) ?_
  intro W base args ds gs before hval hW _ _ hL _
  exact Mx.law_contract_g (P := Tryz.prog) (fn := Tryz.f3) (s := Rows.clientRefusesSpec) (tb := 4) IrClientRefuses.prog (laid := Rows.clientRefusesRow.laid) (by kernel_rfl) rowsOf (by kernel_rfl) rfl PureClientRefuses.aks (by kernel_rfl) (by kernel_rfl) (by kernel_rfl) (by kernel_rfl)
    (fun ds h => match ds, h with | [d1, d2], _ => rfl) PureClientRefuses.law W base args ds gs before hL hval hW
theorem fact0 : (Rows.clientRefusesRow.wf (OpenSpec.ofChange Rows.clientRefusesSpec) && laidOutB Tryz.prog && mapsRowed Tryz.prog && Tryz.f3.params.all (Tryz.prog.readableRec ·) && namedTie Tryz.prog Rows.clientRefusesRow.named Rows.clientRefusesSpec.vars && (Rows.clientRefusesRow.stops == []) && (Tryz.prog.stops == []) && (Rows.clientRefusesRow.knobs == []) && (Tryz.prog.stopKnobs == [])) = true := by kernel_rfl
theorem fact1 : (Rows.clientRefusesRow.inPlace == Tryz.prog.inPlace 3) = true := by kernel_rfl
theorem fact2 : (Rows.clientRefusesRow.unfollowed == Tryz.prog.unfollowed 3) = true := by kernel_rfl
theorem fact3 : (Rows.clientRefusesRow.recurses == Tryz.prog.recurses 3) = true := by kernel_rfl
theorem fact4 : (Rows.clientRefusesRow.named == Tryz.prog.varsNamed 3) = true := by kernel_rfl
theorem fact5 : (Rows.clientRefusesRow.maps == (Tryz.f3.params.toList ++ Rows.clientRefusesSpec.plain.varTypes Tryz.prog).any (Tryz.prog.mapsRec ·)) = true := by kernel_rfl
theorem fact6 : (Rows.clientRefusesRow.ifaces == (Tryz.f3.params.toList ++ Rows.clientRefusesSpec.plain.varTypes Tryz.prog).any (Tryz.prog.ifacesRec ·)) = true := by kernel_rfl
theorem fact7 : (Rows.clientRefusesRow.mapsOut == Tryz.prog.mapsAmong Tryz.f3.resultTypes.toList) = true := by kernel_rfl
theorem fact8 : (Rows.clientRefusesRow.loops == (Tryz.f3.params.toList ++ Rows.clientRefusesSpec.plain.varTypes Tryz.prog).any (Tryz.prog.loopsFrom ·)) = true := by kernel_rfl
theorem fact9 : (Rows.clientRefusesRow.wideKeys == (Tryz.f3.params.toList ++ Rows.clientRefusesSpec.plain.varTypes Tryz.prog ++ Tryz.f3.resultTypes.toList).any (Tryz.prog.wideKeysFrom ·)) = true := by kernel_rfl
theorem fact10 : (Rows.clientRefusesSpec.vars.all (Tryz.prog.varReadable ·)) = true := by kernel_rfl
theorem fact11 : (Tryz.f3.resultTypes.all (fun t => Tryz.prog.readableRec t && decide (t < Tryz.prog.types.size))) = true := by kernel_rfl
theorem fact12 : (Rows.clientRefusesRow.ifacesOut == Tryz.f3.resultTypes.toList.any (Tryz.prog.ifacesRec ·)) = true := by kernel_rfl
theorem fact13 : (Rows.clientRefusesRow.loopsOut == Tryz.f3.resultTypes.toList.any (Tryz.prog.loopsFrom ·)) = true := by kernel_rfl
theorem fact14 : (Rows.clientRefusesRow.plainKeys == Tryz.prog.plainKeys) = true := by kernel_rfl
theorem fact15 : (Rows.clientRefusesRow.shortTexts.isNone) = true := by kernel_rfl
theorem fact16 : (Tryz.prog.stopsHeard) = true := by kernel_rfl
theorem fact17 : (Tryz.prog.mayEnter) = true := by kernel_rfl
theorem fact18 : (Rows.clientRefusesRow.lifted == Tryz.prog.liftsFinal) = true := by kernel_rfl
theorem fact19 : (Tryz.prog.make == some Rows.clientRefusesRow.make) = true := by kernel_rfl
theorem fact20 : (Rows.clientRefusesRow.kinds == (if Rows.clientRefusesRow.domain.isEmpty then [] else Tryz.f3.params.toList.map fun t => match Tryz.prog.underlying t with | some (.int k) => some k | _ => none)) = true := by kernel_rfl
theorem fact21 : (Rows.clientRefusesRow.pinned == Rows.clientRefusesRow.pinnedBy) = true := by kernel_rfl
theorem fact22 : (Rows.clientRefusesRow.veiled == (Tryz.f3.params.toList ++ Rows.clientRefusesSpec.plain.varTypes Tryz.prog ++ Tryz.f3.resultTypes.toList).any (Tryz.prog.veiledRec ·)) = true := by kernel_rfl
theorem fact23 : (Rows.clientRefusesRow.veiledFits Tryz.prog Tryz.f3.params.toList (Tryz.f3.params.toList ++ Rows.clientRefusesSpec.plain.varTypes Tryz.prog ++ Tryz.f3.resultTypes.toList)) = true := by kernel_rfl
theorem both {a b : Bool} (h : a = true) (k : b = true) : (a && b) = true := by rw [h, k]; rfl
set_option maxRecDepth 100000 in
theorem closed : joinedFacts Tryz.prog 3 Tryz.f3 Rows.clientRefusesSpec Rows.clientRefusesRow = true :=
  (both (both (both (both (both (both (both (both (both (both (both (both (both (both (both (both (both (both (both (both (both (both (both fact0 fact1) fact2) fact3) fact4) fact5) fact6) fact7) fact8) fact9) fact10) fact11) fact12) fact13) fact14) fact15) fact16) fact17) fact18) fact19) fact20) fact21) fact22) fact23)
theorem over : Rows.clientRefusesRow.holds Tryz.pinned (OpenSpec.ofChange Rows.clientRefusesSpec) :=
  OpenClaim.holds_of_wide 3 Tryz.f3 rfl rfl rfl rfl rfl rfl rfl ⟨rfl, rfl, rfl, rfl, rfl⟩ rfl rfl rfl rfl rfl (by kernel_rfl) Tryz.func3 closed
    (of_decide_eq_true (by kernel_rfl)) (by unfold Func.isWrapper; first | (rw [if_pos (by decide +kernel)]; kernel_rfl) | (rw [if_neg (by decide +kernel)]; exact ⟨rfl, rfl⟩))
    (fun os started H enc _ => lifted os started H enc)
theorem named : Tryz.prog.funcNamed "cableway/cablewaylaw30.ClientRefuses" = some 3 := by kernel_rfl
theorem noStand : (Tryz.f3.params.toList.all fun t => !Tryz.prog.wantsStandIn t) = true := by kernel_rfl
theorem wfT : Rows.clientRefusesRow.wfByText (OpenSpec.ofChange Rows.clientRefusesSpec) = true := by kernel_rfl
theorem mainT : Tryz.prog.mainIs = some (true, String.toList "cdf5d53c582025c7504f7f03b736aafced58839a2a0ffb8a9cb8f2e17e7ade8c") := by kernel_rfl
theorem looksT : false = Tryz.prog.looks [] := by kernel_rfl
theorem goesT : false = Rows.clientRefusesRow.goesBy Tryz.prog := by kernel_rfl
theorem proved : Rows.ClientRefusesCardSaid :=
  Claim7.holds_tied_plain_at .later [] [.wider, .wider, .wider, .wider, .wider, .wider, .wider, .wider, .data, .wider, .data, .wider, .wider] true (true, "cdf5d53c582025c7504f7f03b736aafced58839a2a0ffb8a9cb8f2e17e7ade8c") false
    over (fun _ h => by cases h) wfT (fun _ h => by cases h) clientRefuses_row_tie rfl ⟨rfl, rfl⟩ mainT (by kernel_rfl)
    (fun f fn hf hfn => by
      obtain rfl : f = 3 := (Option.some.inj (named.symm.trans hf)).symm
      obtain rfl : fn = Tryz.f3 := (Option.some.inj (Tryz.func3.symm.trans hfn)).symm
      exact ⟨looksT, fun j t ht => by
        have := List.all_eq_true.1 noStand t (List.mem_of_getElem? (i := j) (by simpa using ht))
        exact (show Tryz.prog.wantsStandIn t = false from by simpa using this)⟩)
    goesT
#print axioms proved
end Go.Proofs.YthackiallbgeaaaGreatDoor.clientRefuses
namespace Go.Proofs.YthackiallbgeaaaGreatDoor
/-- The tied card, under a short name, for the claim. -/
theorem clientRefuses_holds : Rows.ClientRefusesCardSaid := clientRefuses.proved
end Go.Proofs.YthackiallbgeaaaGreatDoor
