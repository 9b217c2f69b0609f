/-
  THE ROW 'ClientNone', AND ITS TIED CARD: every input, where the listed package variables read as they are laid, by the abstract machine's soundness and its pure law; the tie is the given one.
-/
import Derived.Test.YtbbencnhecokiaaGreatDoorRows
import Derived.Test.YtbbencnhecokiaaGreatDoorCards
import Derived.Test.YtbbencnhecokiaaGreatDoorTie
import Derived.Test.YtbbencnhecokiaaGreatDoorPureClientNone
import Derived.Test.YtbbencnhecokiaaGreatDoorMxW
import Derived.WalkKit
import Derived.ProofKit
import Derived.JoinedOf
import Derived.ChangeSame
import Derived.ChangeVars
import Derived.RowKit
import Derived.RowKitTokens
import Derived.LaidLaws
import Derived.LaidMore
import Derived.LaidHandle
import Derived.SevenTiedAt
import Derived.Stop.Joined
namespace Go.Proofs.YtbbencnhecokiaaGreatDoor.clientNone
open Go.ChangeShapes Go.WideShapes Go.ChangeAt Go.RowKit
theorem own : ownKnob Tryz.prog.godebug = none := by kernel_rfl
theorem rowsOf : Mx.laidRows Tryz.prog Rows.clientNoneRow.laid = some PureClientNone.rows := by kernel_rfl
theorem door_met (os : Os) (args : Array Value) : laidMetH Tryz.prog Rows.clientNoneRow.laid ((World.doorLaid Tryz.prog 400 os).forCall (fun _ _ => 0) ⟨#[], args, []⟩).memory :=
  laidMetH_of_parts3 (fuel := 8) (laidMet_of_run' 8 (by kernel_rfl) (by kernel_rfl)) (by kernel_rfl) (by kernel_rfl)
set_option maxRecDepth 100000 in
theorem lifted (os : Os) (started : os.Started) (H : Type) (enc : TypeId × Value → H) :
    ReturnsInHanded {} Tryz.checked os 9 .any (fun w args => (Rows.clientNoneSpec.pre enc Tryz.prog Tryz.f9 [] false w args ∧ laidMetH Tryz.prog Rows.clientNoneRow.laid w) ∧ sizedMet enc Tryz.prog Tryz.f9 (OpenSpec.ofChange Rows.clientNoneSpec) false w args)
      (Rows.clientNoneSpec.post enc Tryz.prog Tryz.f9 false true false false) := by
  refine returnsInHanded_of_change_and (C := Tryz.checked) (X := fun w _ => laidMetH Tryz.prog Rows.clientNoneRow.laid w) (fun _ _ _ hh h => h.of_heap hh) own started (by kernel_rfl) Tryz.func9
    (ChangeSpec.witness_shaped (enc := enc) (C := Tryz.checked) (os := os) (X := fun w _ => laidMetH Tryz.prog Rows.clientNoneRow.laid w) false (World.doorLaid Tryz.prog 400 os) #[.int .i64 0, .agg #[.int .i64 0, .int .i64 0, .int .i64 0, .int .u32 0, .bool false, .int .i64 0, .int .u32 0], .int .i64 0] 8 rfl (World.shaped_of_RefB (by kernel_rfl) (by kernel_rfl)) (by kernel_rfl) (by kernel_rfl) (by kernel_rfl) (door_met os _)) ?_
  intro W base args ds gs before hval hW _ _ hL _
  exact Mx.law_contract_g (P := Tryz.prog) (fn := Tryz.f9) (s := Rows.clientNoneSpec) (tb := 4) IrClientNone.prog (laid := Rows.clientNoneRow.laid) (by kernel_rfl) rowsOf (by kernel_rfl) rfl PureClientNone.aks (by kernel_rfl) (by kernel_rfl) (by kernel_rfl) (by kernel_rfl)
    (fun ds h => match ds, h with | [d1, d2, d3], _ => rfl) PureClientNone.law W base args ds gs before hL hval hW
theorem fact0 : (Rows.clientNoneRow.wf (OpenSpec.ofChange Rows.clientNoneSpec) && laidOutB Tryz.prog && mapsRowed Tryz.prog && Tryz.f9.params.all (Tryz.prog.readableRec ·) && namedTie Tryz.prog Rows.clientNoneRow.named Rows.clientNoneSpec.vars && (Rows.clientNoneRow.stops == []) && (Tryz.prog.stops == []) && (Rows.clientNoneRow.knobs == []) && (Tryz.prog.stopKnobs == [])) = true := by kernel_rfl
theorem fact1 : (Rows.clientNoneRow.inPlace == Tryz.prog.inPlace 9) = true := by kernel_rfl
theorem fact2 : (Rows.clientNoneRow.unfollowed == Tryz.prog.unfollowed 9) = true := by kernel_rfl
theorem fact3 : (Rows.clientNoneRow.recurses == Tryz.prog.recurses 9) = true := by kernel_rfl
theorem fact4 : (Rows.clientNoneRow.named == Tryz.prog.varsNamed 9) = true := by kernel_rfl
theorem fact5 : (Rows.clientNoneRow.maps == (Tryz.f9.params.toList ++ Rows.clientNoneSpec.plain.varTypes Tryz.prog).any (Tryz.prog.mapsRec ·)) = true := by kernel_rfl
theorem fact6 : (Rows.clientNoneRow.ifaces == (Tryz.f9.params.toList ++ Rows.clientNoneSpec.plain.varTypes Tryz.prog).any (Tryz.prog.ifacesRec ·)) = true := by kernel_rfl
theorem fact7 : (Rows.clientNoneRow.mapsOut == Tryz.prog.mapsAmong Tryz.f9.resultTypes.toList) = true := by kernel_rfl
theorem fact8 : (Rows.clientNoneRow.loops == (Tryz.f9.params.toList ++ Rows.clientNoneSpec.plain.varTypes Tryz.prog).any (Tryz.prog.loopsFrom ·)) = true := by kernel_rfl
theorem fact9 : (Rows.clientNoneRow.wideKeys == (Tryz.f9.params.toList ++ Rows.clientNoneSpec.plain.varTypes Tryz.prog ++ Tryz.f9.resultTypes.toList).any (Tryz.prog.wideKeysFrom ·)) = true := by kernel_rfl
theorem fact10 : (Rows.clientNoneSpec.vars.all (Tryz.prog.varReadable ·)) = true := by kernel_rfl
theorem fact11 : (Tryz.f9.resultTypes.all (fun t => Tryz.prog.readableRec t && decide (t < Tryz.prog.types.size))) = true := by kernel_rfl
theorem fact12 : (Rows.clientNoneRow.ifacesOut == Tryz.f9.resultTypes.toList.any (Tryz.prog.ifacesRec ·)) = true := by kernel_rfl
theorem fact13 : (Rows.clientNoneRow.loopsOut == Tryz.f9.resultTypes.toList.any (Tryz.prog.loopsFrom ·)) = true := by kernel_rfl
theorem fact14 : (Rows.clientNoneRow.plainKeys == Tryz.prog.plainKeys) = true := by kernel_rfl
theorem fact15 : (Rows.clientNoneRow.shortTexts.isNone) = true := by kernel_rfl
theorem fact16 : (Tryz.prog.stopsHeard) = true := by kernel_rfl
theorem fact17 : (Tryz.prog.mayEnter) = true := by kernel_rfl
theorem fact18 : (Rows.clientNoneRow.lifted == Tryz.prog.liftsFinal) = true := by kernel_rfl
theorem fact19 : (Tryz.prog.make == some Rows.clientNoneRow.make) = true := by kernel_rfl
theorem fact20 : (Rows.clientNoneRow.kinds == (if Rows.clientNoneRow.domain.isEmpty then [] else Tryz.f9.params.toList.map fun t => match Tryz.prog.underlying t with | some (.int k) => some k | _ => none)) = true := by kernel_rfl
theorem fact21 : (Rows.clientNoneRow.pinned == Rows.clientNoneRow.pinnedBy) = true := by kernel_rfl
theorem fact22 : (Rows.clientNoneRow.veiled == (Tryz.f9.params.toList ++ Rows.clientNoneSpec.plain.varTypes Tryz.prog ++ Tryz.f9.resultTypes.toList).any (Tryz.prog.veiledRec ·)) = true := by kernel_rfl
theorem fact23 : (Rows.clientNoneRow.veiledFits Tryz.prog Tryz.f9.params.toList (Tryz.f9.params.toList ++ Rows.clientNoneSpec.plain.varTypes Tryz.prog ++ Tryz.f9.resultTypes.toList)) = true := by kernel_rfl
theorem both {a b : Bool} (h : a = true) (k : b = true) : (a && b) = true := by rw [h, k]; rfl
set_option maxRecDepth 100000 in
theorem closed : joinedFacts Tryz.prog 9 Tryz.f9 Rows.clientNoneSpec Rows.clientNoneRow = true :=
  (both (both (both (both (both (both (both (both (both (both (both (both (both (both (both (both (both (both (both (both (both (both (both fact0 fact1) fact2) fact3) fact4) fact5) fact6) fact7) fact8) fact9) fact10) fact11) fact12) fact13) fact14) fact15) fact16) fact17) fact18) fact19) fact20) fact21) fact22) fact23)
theorem over : Rows.clientNoneRow.holds Tryz.pinned (OpenSpec.ofChange Rows.clientNoneSpec) :=
  OpenClaim.holds_of_wide 9 Tryz.f9 rfl rfl rfl rfl rfl rfl rfl ⟨rfl, rfl, rfl, rfl, rfl⟩ rfl rfl rfl rfl rfl (by kernel_rfl) Tryz.func9 closed
    (of_decide_eq_true (by kernel_rfl)) (by unfold Func.isWrapper; first | (rw [if_pos (by decide +kernel)]; kernel_rfl) | (rw [if_neg (by decide +kernel)]; exact ⟨rfl, rfl⟩))
    (fun os started H enc _ => lifted os started H enc)
theorem named : Tryz.prog.funcNamed "cableway/cablewaylaw30.ClientNone" = some 9 := by kernel_rfl
theorem noStand : (Tryz.f9.params.toList.all fun t => !Tryz.prog.wantsStandIn t) = true := by kernel_rfl
theorem proved : Rows.ClientNoneCardSaid :=
  Claim7.holds_tied_plain_at .later [] [.wider, .wider, .wider, .wider, .wider, .wider, .wider, .wider, .data, .wider, .data, .wider, .wider] true (true, "b9843be366872a104d7e56a5d5e922be3026bd582af87798949e6fdb19eeac01") false
    over (fun _ h => by cases h) (by kernel_rfl) (fun _ h => by cases h) clientNone_row_tie rfl ⟨rfl, rfl⟩ (by kernel_rfl) (by kernel_rfl)
    (fun f fn hf hfn => by
      obtain rfl : f = 9 := (Option.some.inj (named.symm.trans hf)).symm
      obtain rfl : fn = Tryz.f9 := (Option.some.inj (Tryz.func9.symm.trans hfn)).symm
      exact ⟨by kernel_rfl, fun j t ht => by
        have := List.all_eq_true.1 noStand t (List.mem_of_getElem? (i := j) (by simpa using ht))
        exact (show Tryz.prog.wantsStandIn t = false from by simpa using this)⟩)
    (by kernel_rfl)
#print axioms proved
end Go.Proofs.YtbbencnhecokiaaGreatDoor.clientNone
namespace Go.Proofs.YtbbencnhecokiaaGreatDoor
/-- The tied card, under a short name, for the claim. -/
theorem clientNone_holds : Rows.ClientNoneCardSaid := clientNone.proved
end Go.Proofs.YtbbencnhecokiaaGreatDoor
