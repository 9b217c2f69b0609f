/-
  DERIVED. GIVEN WITH THE SEED: THE PROGRAM's TIES (one call each: nine closed facts by the kernel) AND EACH ROW's TIE, after the 31st guide's Derived/Test/Toyas{Tie, Card}.lean. No idea stands in it: it is a product of the set-up. Laid BY PROGRAM, IN A SANDBOX (cutbox-door.mjs). By AI agents, Wed Nov 11 2026. No macro, syntax, notation, axiom, sorry.
-/
import Derived.Test.YtbbencnhecokiaaDoorRows
import Derived.LaidByTextLater
import Derived.SevenTiedAt
import Derived.LaidSub
import Derived.LaidOnce
namespace Go.Proofs.YtbbencnhecokiaaDoor
open Go
set_option maxRecDepth 100000
theorem seatTie1 : Tryd.prog.laidByTextLater [("cableway/frame.kind", Rows.laid_cableway_frame_kind), ("cableway/frame.client", Rows.laid_cableway_frame_client), ("cableway/frame.service", Rows.laid_cableway_frame_service), ("cableway/frame.slot", Rows.laid_cableway_frame_slot), ("cableway/frame.try", Rows.laid_cableway_frame_try), ("cableway/frame.sure", Rows.laid_cableway_frame_sure), ("cableway/frame.stream", Rows.laid_cableway_frame_stream), ("cableway/frame.gen", Rows.laid_cableway_frame_gen), ("cableway/frame.call", Rows.laid_cableway_frame_call), ("cableway/frame.value", Rows.laid_cableway_frame_value), ("cableway/frame.seq", Rows.laid_cableway_frame_seq)] [.wider, .wider, .wider, .wider, .wider, .wider, .wider, .wider, .data, .wider, .data] true :=
  Program.laidByTextLater_by_one 64 8 3 (by kernel_rfl) (by kernel_rfl) (by kernel_rfl) (by kernel_rfl) (by kernel_rfl) (by kernel_rfl) (fun _ _ => by kernel_rfl)
theorem noOwnUnsafe : Tryd.pinned.checked.prog.headLifts.contains "ownunsafe" = false := by kernel_rfl
theorem tie : Tryd.prog.laidByTextLater [("cableway/frame.kind", Rows.laid_cableway_frame_kind), ("cableway/frame.client", Rows.laid_cableway_frame_client), ("cableway/frame.service", Rows.laid_cableway_frame_service), ("cableway/frame.slot", Rows.laid_cableway_frame_slot), ("cableway/frame.try", Rows.laid_cableway_frame_try), ("cableway/frame.sure", Rows.laid_cableway_frame_sure), ("cableway/frame.stream", Rows.laid_cableway_frame_stream), ("cableway/frame.gen", Rows.laid_cableway_frame_gen), ("cableway/frame.call", Rows.laid_cableway_frame_call), ("cableway/frame.value", Rows.laid_cableway_frame_value), ("cableway/frame.seq", Rows.laid_cableway_frame_seq)] [.wider, .wider, .wider, .wider, .wider, .wider, .wider, .wider, .data, .wider, .data] true :=
  Program.laidByTextLater.sub seatTie1 ["cableway/frame.kind", "cableway/frame.client", "cableway/frame.service", "cableway/frame.slot", "cableway/frame.try", "cableway/frame.sure", "cableway/frame.stream", "cableway/frame.gen", "cableway/frame.call", "cableway/frame.value", "cableway/frame.seq"] (by kernel_rfl) (by kernel_rfl)
theorem clockTells_row_tie : Rows.clockTellsRow.laidByTextAt .later Tryd.pinned [.wider, .wider, .wider, .wider, .wider, .wider, .wider, .wider, .data, .wider, .data] true :=
  OpenClaim.laidByTextAt_later rfl rfl tie noOwnUnsafe
theorem clockDeaf_row_tie : Rows.clockDeafRow.laidByTextAt .later Tryd.pinned [.wider, .wider, .wider, .wider, .wider, .wider, .wider, .wider, .data, .wider, .data] true :=
  OpenClaim.laidByTextAt_later rfl rfl tie noOwnUnsafe
theorem clockNone_row_tie : Rows.clockNoneRow.laidByTextAt .later Tryd.pinned [.wider, .wider, .wider, .wider, .wider, .wider, .wider, .wider, .data, .wider, .data] true :=
  OpenClaim.laidByTextAt_later rfl rfl tie noOwnUnsafe
theorem clockOnce_row_tie : Rows.clockOnceRow.laidByTextAt .later Tryd.pinned [.wider, .wider, .wider, .wider, .wider, .wider, .wider, .wider, .data, .wider, .data] true :=
  OpenClaim.laidByTextAt_later rfl rfl tie noOwnUnsafe
theorem clockTellsUpto_row_tie : Rows.clockTellsUptoRow.laidByTextAt .later Tryd.pinned [.wider, .wider, .wider, .wider, .wider, .wider, .wider, .wider, .data, .wider, .data] true :=
  OpenClaim.laidByTextAt_later rfl rfl tie noOwnUnsafe
theorem clockDeafUpto_row_tie : Rows.clockDeafUptoRow.laidByTextAt .later Tryd.pinned [.wider, .wider, .wider, .wider, .wider, .wider, .wider, .wider, .data, .wider, .data] true :=
  OpenClaim.laidByTextAt_later rfl rfl tie noOwnUnsafe
theorem clockNoneUpto_row_tie : Rows.clockNoneUptoRow.laidByTextAt .later Tryd.pinned [.wider, .wider, .wider, .wider, .wider, .wider, .wider, .wider, .data, .wider, .data] true :=
  OpenClaim.laidByTextAt_later rfl rfl tie noOwnUnsafe
theorem clockOnceUpto_row_tie : Rows.clockOnceUptoRow.laidByTextAt .later Tryd.pinned [.wider, .wider, .wider, .wider, .wider, .wider, .wider, .wider, .data, .wider, .data] true :=
  OpenClaim.laidByTextAt_later rfl rfl tie noOwnUnsafe
end Go.Proofs.YtbbencnhecokiaaDoor
