/-
  THE ROW 'PostTwice', AND ITS TIED CARD: every input, where the listed package variables read as they are laid, by the abstract machine's soundness and its pure law; the tie is the given one.
-/
import Derived.Test.YtnhdpfbfgojkpaaGreatDoorRows
import Derived.Test.YtnhdpfbfgojkpaaGreatDoorCards
import Derived.Test.YtnhdpfbfgojkpaaGreatDoorTie
import Derived.Test.YtnhdpfbfgojkpaaGreatDoorPurePostTwice
import Derived.Test.YtnhdpfbfgojkpaaGreatDoorMxW
import Derived.WalkKit
import Derived.ProofKit
import Derived.JoinedOf
import Derived.ChangeSame
import Derived.ChangeVars
import Derived.RowKit
import Derived.RowKitTokens
import Derived.LaidLaws
import Derived.LaidMore
import Derived.LaidHandle
import Derived.SevenTiedAt
import Derived.Stop.Joined
namespace Go.Proofs.YtnhdpfbfgojkpaaGreatDoor.postTwice
open Go.ChangeShapes Go.WideShapes Go.ChangeAt Go.RowKit
theorem own : ownKnob Tryz.prog.godebug = none := by kernel_rfl
theorem rowsOf : Mx.laidRows Tryz.prog Rows.postTwiceRow.laid = some PurePostTwice.rows := by kernel_rfl
theorem door_met (os : Os) (args : Array Value) : laidMetH Tryz.prog Rows.postTwiceRow.laid ((World.doorLaid Tryz.prog 400 os).forCall (fun _ _ => 0) ⟨#[], args, []⟩).memory :=
  laidMetH_of_parts3 (fuel := 8) (laidMet_of_run' 8 (by kernel_rfl) (by kernel_rfl)) (by kernel_rfl) (by kernel_rfl)
set_option maxRecDepth 100000 in
theorem lifted (os : Os) (started : os.Started) (H : Type) (enc : TypeId × Value → H) :
    ReturnsInHanded {} Tryz.checked os 4 .any (fun w args => (Rows.postTwiceSpec.pre enc Tryz.prog Tryz.f4 [] false w args ∧ laidMetH Tryz.prog Rows.postTwiceRow.laid w) ∧ sizedMet enc Tryz.prog Tryz.f4 (OpenSpec.ofChange Rows.postTwiceSpec) false w args)
      (Rows.postTwiceSpec.post enc Tryz.prog Tryz.f4 false true false false) := by
  refine returnsInHanded_of_change_and (C := Tryz.checked) (X := fun w _ => laidMetH Tryz.prog Rows.postTwiceRow.laid w) (fun _ _ _ hh h => h.of_heap hh) own started (by kernel_rfl) Tryz.func4
    (ChangeSpec.witness_shaped (enc := enc) (C := Tryz.checked) (os := os) (X := fun w _ => laidMetH Tryz.prog Rows.postTwiceRow.laid w) false (World.doorLaid Tryz.prog 400 os) #[.agg #[.int .i64 0, .int .i64 0, .int .i64 0, .int .i64 0, .int .i64 0, .int .u32 0, .int .i64 0, .bool false, .bool false, .int .i64 0, .int .u32 0], .bool false] 8 rfl (World.shaped_of_RefB (by kernel_rfl) (by kernel_rfl)) (by kernel_rfl) (by kernel_rfl) (by kernel_rfl) (door_met os _)) ?_
  intro W base args ds gs before hval hW _ _ hL _
  exact Mx.law_contract_g (P := Tryz.prog) (fn := Tryz.f4) (s := Rows.postTwiceSpec) (tb := 4) IrPostTwice.prog (laid := Rows.postTwiceRow.laid) (by kernel_rfl) rowsOf (by kernel_rfl) rfl PurePostTwice.aks (by kernel_rfl) (by kernel_rfl) (by kernel_rfl) (by kernel_rfl)
    (fun ds h => match ds, h with | [d1, d2], _ => rfl) PurePostTwice.law W base args ds gs before hL hval hW
theorem fact0 : (Rows.postTwiceRow.wf (OpenSpec.ofChange Rows.postTwiceSpec) && laidOutB Tryz.prog && mapsRowed Tryz.prog && Tryz.f4.params.all (Tryz.prog.readableRec ·) && namedTie Tryz.prog Rows.postTwiceRow.named Rows.postTwiceSpec.vars && (Rows.postTwiceRow.stops == []) && (Tryz.prog.stops == []) && (Rows.postTwiceRow.knobs == []) && (Tryz.prog.stopKnobs == [])) = true := by kernel_rfl
theorem fact1 : (Rows.postTwiceRow.inPlace == Tryz.prog.inPlace 4) = true := by kernel_rfl
theorem fact2 : (Rows.postTwiceRow.unfollowed == Tryz.prog.unfollowed 4) = true := by kernel_rfl
theorem fact3 : (Rows.postTwiceRow.recurses == Tryz.prog.recurses 4) = true := by kernel_rfl
theorem fact4 : (Rows.postTwiceRow.named == Tryz.prog.varsNamed 4) = true := by kernel_rfl
theorem fact5 : (Rows.postTwiceRow.maps == (Tryz.f4.params.toList ++ Rows.postTwiceSpec.plain.varTypes Tryz.prog).any (Tryz.prog.mapsRec ·)) = true := by kernel_rfl
theorem fact6 : (Rows.postTwiceRow.ifaces == (Tryz.f4.params.toList ++ Rows.postTwiceSpec.plain.varTypes Tryz.prog).any (Tryz.prog.ifacesRec ·)) = true := by kernel_rfl
theorem fact7 : (Rows.postTwiceRow.mapsOut == Tryz.prog.mapsAmong Tryz.f4.resultTypes.toList) = true := by kernel_rfl
theorem fact8 : (Rows.postTwiceRow.loops == (Tryz.f4.params.toList ++ Rows.postTwiceSpec.plain.varTypes Tryz.prog).any (Tryz.prog.loopsFrom ·)) = true := by kernel_rfl
theorem fact9 : (Rows.postTwiceRow.wideKeys == (Tryz.f4.params.toList ++ Rows.postTwiceSpec.plain.varTypes Tryz.prog ++ Tryz.f4.resultTypes.toList).any (Tryz.prog.wideKeysFrom ·)) = true := by kernel_rfl
theorem fact10 : (Rows.postTwiceSpec.vars.all (Tryz.prog.varReadable ·)) = true := by kernel_rfl
theorem fact11 : (Tryz.f4.resultTypes.all (fun t => Tryz.prog.readableRec t && decide (t < Tryz.prog.types.size))) = true := by kernel_rfl
theorem fact12 : (Rows.postTwiceRow.ifacesOut == Tryz.f4.resultTypes.toList.any (Tryz.prog.ifacesRec ·)) = true := by kernel_rfl
theorem fact13 : (Rows.postTwiceRow.loopsOut == Tryz.f4.resultTypes.toList.any (Tryz.prog.loopsFrom ·)) = true := by kernel_rfl
theorem fact14 : (Rows.postTwiceRow.plainKeys == Tryz.prog.plainKeys) = true := by kernel_rfl
theorem fact15 : (Rows.postTwiceRow.shortTexts.isNone) = true := by kernel_rfl
theorem fact16 : (Tryz.prog.stopsHeard) = true := by kernel_rfl
theorem fact17 : (Tryz.prog.mayEnter) = true := by kernel_rfl
theorem fact18 : (Rows.postTwiceRow.lifted == Tryz.prog.liftsFinal) = true := by kernel_rfl
theorem fact19 : (Tryz.prog.make == some Rows.postTwiceRow.make) = true := by kernel_rfl
theorem fact20 : (Rows.postTwiceRow.kinds == (if Rows.postTwiceRow.domain.isEmpty then [] else Tryz.f4.params.toList.map fun t => match Tryz.prog.underlying t with | some (.int k) => some k | _ => none)) = true := by kernel_rfl
theorem fact21 : (Rows.postTwiceRow.pinned == Rows.postTwiceRow.pinnedBy) = true := by kernel_rfl
theorem fact22 : (Rows.postTwiceRow.veiled == (Tryz.f4.params.toList ++ Rows.postTwiceSpec.plain.varTypes Tryz.prog ++ Tryz.f4.resultTypes.toList).any (Tryz.prog.veiledRec ·)) = true := by kernel_rfl
theorem fact23 : (Rows.postTwiceRow.veiledFits Tryz.prog Tryz.f4.params.toList (Tryz.f4.params.toList ++ Rows.postTwiceSpec.plain.varTypes Tryz.prog ++ Tryz.f4.resultTypes.toList)) = true := by kernel_rfl
theorem both {a b : Bool} (h : a = true) (k : b = true) : (a && b) = true := by rw [h, k]; rfl
set_option maxRecDepth 100000 in
theorem closed : joinedFacts Tryz.prog 4 Tryz.f4 Rows.postTwiceSpec Rows.postTwiceRow = true :=
  (both (both (both (both (both (both (both (both (both (both (both (both (both (both (both (both (both (both (both (both (both (both (both fact0 fact1) fact2) fact3) fact4) fact5) fact6) fact7) fact8) fact9) fact10) fact11) fact12) fact13) fact14) fact15) fact16) fact17) fact18) fact19) fact20) fact21) fact22) fact23)
theorem over : Rows.postTwiceRow.holds Tryz.pinned (OpenSpec.ofChange Rows.postTwiceSpec) :=
  OpenClaim.holds_of_wide 4 Tryz.f4 rfl rfl rfl rfl rfl rfl rfl ⟨rfl, rfl, rfl, rfl, rfl⟩ rfl rfl rfl rfl rfl (by kernel_rfl) Tryz.func4 closed
    (of_decide_eq_true (by kernel_rfl)) (by unfold Func.isWrapper; first | (rw [if_pos (by decide +kernel)]; kernel_rfl) | (rw [if_neg (by decide +kernel)]; exact ⟨rfl, rfl⟩))
    (fun os started H enc _ => lifted os started H enc)
theorem named : Tryz.prog.funcNamed "cableway/cablewaylaw32.PostTwice" = some 4 := by kernel_rfl
theorem noStand : (Tryz.f4.params.toList.all fun t => !Tryz.prog.wantsStandIn t) = true := by kernel_rfl
theorem wfT : Rows.postTwiceRow.wfByText (OpenSpec.ofChange Rows.postTwiceSpec) = true := by kernel_rfl
theorem mainT : Tryz.prog.mainIs = some (true, String.toList "dc327f9d280b8307421190539333f331df3b57ce8cb0ab9479e187b15e4b346b") := by kernel_rfl
theorem looksT : false = Tryz.prog.looks [] := by kernel_rfl
theorem goesT : false = Rows.postTwiceRow.goesBy Tryz.prog := by kernel_rfl
theorem proved : Rows.PostTwiceCardSaid :=
  Claim7.holds_tied_plain_at .later [] [.wider, .wider, .wider, .wider, .wider, .wider, .wider, .wider, .data, .wider, .data] true (true, "dc327f9d280b8307421190539333f331df3b57ce8cb0ab9479e187b15e4b346b") false
    over (fun _ h => by cases h) wfT (fun _ h => by cases h) postTwice_row_tie rfl ⟨rfl, rfl⟩ mainT (by kernel_rfl)
    (fun f fn hf hfn => by
      obtain rfl : f = 4 := (Option.some.inj (named.symm.trans hf)).symm
      obtain rfl : fn = Tryz.f4 := (Option.some.inj (Tryz.func4.symm.trans hfn)).symm
      exact ⟨looksT, fun j t ht => by
        have := List.all_eq_true.1 noStand t (List.mem_of_getElem? (i := j) (by simpa using ht))
        exact (show Tryz.prog.wantsStandIn t = false from by simpa using this)⟩)
    goesT
#print axioms proved
end Go.Proofs.YtnhdpfbfgojkpaaGreatDoor.postTwice
namespace Go.Proofs.YtnhdpfbfgojkpaaGreatDoor
/-- The tied card, under a short name, for the claim. -/
theorem postTwice_holds : Rows.PostTwiceCardSaid := postTwice.proved
end Go.Proofs.YtnhdpfbfgojkpaaGreatDoor
