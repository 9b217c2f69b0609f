/-
  THE ROW 'FabricNone', AND ITS TIED CARD: every input, where the listed package variables read as they are laid, by the abstract machine's soundness and its pure law; the tie is the given one.
-/
import Derived.Test.YthackiallbgeaaaGreatDoorRows
import Derived.Test.YthackiallbgeaaaGreatDoorCards
import Derived.Test.YthackiallbgeaaaGreatDoorTie
import Derived.Test.YthackiallbgeaaaGreatDoorPureFabricNone
import Derived.Test.YthackiallbgeaaaGreatDoorMxW
import Derived.WalkKit
import Derived.ProofKit
import Derived.JoinedOf
import Derived.ChangeSame
import Derived.ChangeVars
import Derived.RowKit
import Derived.RowKitTokens
import Derived.LaidLaws
import Derived.LaidMore
import Derived.LaidHandle
import Derived.SevenTiedAt
import Derived.Stop.Joined
namespace Go.Proofs.YthackiallbgeaaaGreatDoor.fabricNone
open Go.ChangeShapes Go.WideShapes Go.ChangeAt Go.RowKit
theorem own : ownKnob Tryz.prog.godebug = none := by kernel_rfl
theorem rowsOf : Mx.laidRows Tryz.prog Rows.fabricNoneRow.laid = some PureFabricNone.rows := by kernel_rfl
theorem door_met (os : Os) (args : Array Value) : laidMetH Tryz.prog Rows.fabricNoneRow.laid ((World.doorLaid Tryz.prog 400 os).forCall (fun _ _ => 0) ⟨#[], args, []⟩).memory :=
  laidMetH_of_parts3 (fuel := 8) (laidMet_of_run' 8 (by kernel_rfl) (by kernel_rfl)) (by kernel_rfl) (by kernel_rfl)
set_option maxRecDepth 100000 in
theorem lifted (os : Os) (started : os.Started) (H : Type) (enc : TypeId × Value → H) :
    ReturnsInHanded {} Tryz.checked os 5 .any (fun w args => (Rows.fabricNoneSpec.pre enc Tryz.prog Tryz.f5 [] false w args ∧ laidMetH Tryz.prog Rows.fabricNoneRow.laid w) ∧ sizedMet enc Tryz.prog Tryz.f5 (OpenSpec.ofChange Rows.fabricNoneSpec) false w args)
      (Rows.fabricNoneSpec.post enc Tryz.prog Tryz.f5 false true false false) := by
  refine returnsInHanded_of_change_and (C := Tryz.checked) (X := fun w _ => laidMetH Tryz.prog Rows.fabricNoneRow.laid w) (fun _ _ _ hh h => h.of_heap hh) own started (by kernel_rfl) Tryz.func5
    (ChangeSpec.witness_shaped (enc := enc) (C := Tryz.checked) (os := os) (X := fun w _ => laidMetH Tryz.prog Rows.fabricNoneRow.laid w) false (World.doorLaid Tryz.prog 400 os) #[.int .i64 0, .int .i64 0, .agg #[.int .i64 0, .int .i64 0, .int .i64 0, .int .u32 0, .bool false, .int .i64 0, .int .u32 0]] 8 rfl (World.shaped_of_RefB (by kernel_rfl) (by kernel_rfl)) (by kernel_rfl) (by kernel_rfl) (by kernel_rfl) (door_met os _)) ?_
  intro W base args ds gs before hval hW _ _ hL _
  exact Mx.law_contract_g (P := Tryz.prog) (fn := Tryz.f5) (s := Rows.fabricNoneSpec) (tb := 4) IrFabricNone.prog (laid := Rows.fabricNoneRow.laid) (by kernel_rfl) rowsOf (by kernel_rfl) rfl PureFabricNone.aks (by kernel_rfl) (by kernel_rfl) (by kernel_rfl) (by kernel_rfl)
    (fun ds h => match ds, h with | [d1, d2, d3], _ => rfl) PureFabricNone.law W base args ds gs before hL hval hW
theorem fact0 : (Rows.fabricNoneRow.wf (OpenSpec.ofChange Rows.fabricNoneSpec) && laidOutB Tryz.prog && mapsRowed Tryz.prog && Tryz.f5.params.all (Tryz.prog.readableRec ·) && namedTie Tryz.prog Rows.fabricNoneRow.named Rows.fabricNoneSpec.vars && (Rows.fabricNoneRow.stops == []) && (Tryz.prog.stops == []) && (Rows.fabricNoneRow.knobs == []) && (Tryz.prog.stopKnobs == [])) = true := by kernel_rfl
theorem fact1 : (Rows.fabricNoneRow.inPlace == Tryz.prog.inPlace 5) = true := by kernel_rfl
theorem fact2 : (Rows.fabricNoneRow.unfollowed == Tryz.prog.unfollowed 5) = true := by kernel_rfl
theorem fact3 : (Rows.fabricNoneRow.recurses == Tryz.prog.recurses 5) = true := by kernel_rfl
theorem fact4 : (Rows.fabricNoneRow.named == Tryz.prog.varsNamed 5) = true := by kernel_rfl
theorem fact5 : (Rows.fabricNoneRow.maps == (Tryz.f5.params.toList ++ Rows.fabricNoneSpec.plain.varTypes Tryz.prog).any (Tryz.prog.mapsRec ·)) = true := by kernel_rfl
theorem fact6 : (Rows.fabricNoneRow.ifaces == (Tryz.f5.params.toList ++ Rows.fabricNoneSpec.plain.varTypes Tryz.prog).any (Tryz.prog.ifacesRec ·)) = true := by kernel_rfl
theorem fact7 : (Rows.fabricNoneRow.mapsOut == Tryz.prog.mapsAmong Tryz.f5.resultTypes.toList) = true := by kernel_rfl
theorem fact8 : (Rows.fabricNoneRow.loops == (Tryz.f5.params.toList ++ Rows.fabricNoneSpec.plain.varTypes Tryz.prog).any (Tryz.prog.loopsFrom ·)) = true := by kernel_rfl
theorem fact9 : (Rows.fabricNoneRow.wideKeys == (Tryz.f5.params.toList ++ Rows.fabricNoneSpec.plain.varTypes Tryz.prog ++ Tryz.f5.resultTypes.toList).any (Tryz.prog.wideKeysFrom ·)) = true := by kernel_rfl
theorem fact10 : (Rows.fabricNoneSpec.vars.all (Tryz.prog.varReadable ·)) = true := by kernel_rfl
theorem fact11 : (Tryz.f5.resultTypes.all (fun t => Tryz.prog.readableRec t && decide (t < Tryz.prog.types.size))) = true := by kernel_rfl
theorem fact12 : (Rows.fabricNoneRow.ifacesOut == Tryz.f5.resultTypes.toList.any (Tryz.prog.ifacesRec ·)) = true := by kernel_rfl
theorem fact13 : (Rows.fabricNoneRow.loopsOut == Tryz.f5.resultTypes.toList.any (Tryz.prog.loopsFrom ·)) = true := by kernel_rfl
theorem fact14 : (Rows.fabricNoneRow.plainKeys == Tryz.prog.plainKeys) = true := by kernel_rfl
theorem fact15 : (Rows.fabricNoneRow.shortTexts.isNone) = true := by kernel_rfl
theorem fact16 : (Tryz.prog.stopsHeard) = true := by kernel_rfl
theorem fact17 : (Tryz.prog.mayEnter) = true := by kernel_rfl
theorem fact18 : (Rows.fabricNoneRow.lifted == Tryz.prog.liftsFinal) = true := by kernel_rfl
theorem fact19 : (Tryz.prog.make == some Rows.fabricNoneRow.make) = true := by kernel_rfl
theorem fact20 : (Rows.fabricNoneRow.kinds == (if Rows.fabricNoneRow.domain.isEmpty then [] else Tryz.f5.params.toList.map fun t => match Tryz.prog.underlying t with | some (.int k) => some k | _ => none)) = true := by kernel_rfl
theorem fact21 : (Rows.fabricNoneRow.pinned == Rows.fabricNoneRow.pinnedBy) = true := by kernel_rfl
theorem fact22 : (Rows.fabricNoneRow.veiled == (Tryz.f5.params.toList ++ Rows.fabricNoneSpec.plain.varTypes Tryz.prog ++ Tryz.f5.resultTypes.toList).any (Tryz.prog.veiledRec ·)) = true := by kernel_rfl
theorem fact23 : (Rows.fabricNoneRow.veiledFits Tryz.prog Tryz.f5.params.toList (Tryz.f5.params.toList ++ Rows.fabricNoneSpec.plain.varTypes Tryz.prog ++ Tryz.f5.resultTypes.toList)) = true := by kernel_rfl
theorem both {a b : Bool} (h : a = true) (k : b = true) : (a && b) = true := by rw [h, k]; rfl
set_option maxRecDepth 100000 in
theorem closed : joinedFacts Tryz.prog 5 Tryz.f5 Rows.fabricNoneSpec Rows.fabricNoneRow = true :=
  (both (both (both (both (both (both (both (both (both (both (both (both (both (both (both (both (both (both (both (both (both (both (both fact0 fact1) fact2) fact3) fact4) fact5) fact6) fact7) fact8) fact9) fact10) fact11) fact12) fact13) fact14) fact15) fact16) fact17) fact18) fact19) fact20) fact21) fact22) fact23)
theorem over : Rows.fabricNoneRow.holds Tryz.pinned (OpenSpec.ofChange Rows.fabricNoneSpec) :=
  OpenClaim.holds_of_wide 5 Tryz.f5 rfl rfl rfl rfl rfl rfl rfl ⟨rfl, rfl, rfl, rfl, rfl⟩ rfl rfl rfl rfl rfl (by kernel_rfl) Tryz.func5 closed
    (of_decide_eq_true (by kernel_rfl)) (by unfold Func.isWrapper; first | (rw [if_pos (by decide +kernel)]; kernel_rfl) | (rw [if_neg (by decide +kernel)]; exact ⟨rfl, rfl⟩))
    (fun os started H enc _ => lifted os started H enc)
theorem named : Tryz.prog.funcNamed "cableway/cablewaylaw33.FabricNone" = some 5 := by kernel_rfl
theorem noStand : (Tryz.f5.params.toList.all fun t => !Tryz.prog.wantsStandIn t) = true := by kernel_rfl
theorem wfT : Rows.fabricNoneRow.wfByText (OpenSpec.ofChange Rows.fabricNoneSpec) = true := by kernel_rfl
theorem mainT : Tryz.prog.mainIs = some (true, String.toList "cdf5d53c582025c7504f7f03b736aafced58839a2a0ffb8a9cb8f2e17e7ade8c") := by kernel_rfl
theorem looksT : false = Tryz.prog.looks [] := by kernel_rfl
theorem goesT : false = Rows.fabricNoneRow.goesBy Tryz.prog := by kernel_rfl
theorem proved : Rows.FabricNoneCardSaid :=
  Claim7.holds_tied_plain_at .later [] [.wider, .wider, .wider, .wider, .wider, .wider, .wider, .wider, .data, .wider, .data, .wider, .wider] true (true, "cdf5d53c582025c7504f7f03b736aafced58839a2a0ffb8a9cb8f2e17e7ade8c") false
    over (fun _ h => by cases h) wfT (fun _ h => by cases h) fabricNone_row_tie rfl ⟨rfl, rfl⟩ mainT (by kernel_rfl)
    (fun f fn hf hfn => by
      obtain rfl : f = 5 := (Option.some.inj (named.symm.trans hf)).symm
      obtain rfl : fn = Tryz.f5 := (Option.some.inj (Tryz.func5.symm.trans hfn)).symm
      exact ⟨looksT, fun j t ht => by
        have := List.all_eq_true.1 noStand t (List.mem_of_getElem? (i := j) (by simpa using ht))
        exact (show Tryz.prog.wantsStandIn t = false from by simpa using this)⟩)
    goesT
#print axioms proved
end Go.Proofs.YthackiallbgeaaaGreatDoor.fabricNone
namespace Go.Proofs.YthackiallbgeaaaGreatDoor
/-- The tied card, under a short name, for the claim. -/
theorem fabricNone_holds : Rows.FabricNoneCardSaid := fabricNone.proved
end Go.Proofs.YthackiallbgeaaaGreatDoor
