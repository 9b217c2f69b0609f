/-
  DERIVED. GIVEN WITH THE SEED: THE PROGRAM's TIES (one call each: nine closed facts by the kernel) AND EACH ROW's TIE, after the 31st guide's Derived/Test/Toyas{Tie, Card}.lean. No idea stands in it: it is a product of the set-up. Laid BY PROGRAM, IN A SANDBOX (cutbox-door.mjs). By AI agents, Wed Nov 11 2026. No macro, syntax, notation, axiom, sorry.
-/
import Derived.Test.YthackiallbgeaaaGreatDoorRows
import Derived.LaidByTextLater
import Derived.SevenTiedAt
import Derived.LaidSub
import Derived.LaidOnce
namespace Go.Proofs.YthackiallbgeaaaGreatDoor
open Go
set_option maxRecDepth 100000
theorem seatTie1 : Tryz.prog.laidByTextLater [("cableway/frame.kind", Rows.laid_cableway_frame_kind), ("cableway/frame.client", Rows.laid_cableway_frame_client), ("cableway/frame.service", Rows.laid_cableway_frame_service), ("cableway/frame.slot", Rows.laid_cableway_frame_slot), ("cableway/frame.try", Rows.laid_cableway_frame_try), ("cableway/frame.sure", Rows.laid_cableway_frame_sure), ("cableway/frame.stream", Rows.laid_cableway_frame_stream), ("cableway/frame.gen", Rows.laid_cableway_frame_gen), ("cableway/frame.call", Rows.laid_cableway_frame_call), ("cableway/frame.value", Rows.laid_cableway_frame_value), ("cableway/frame.seq", Rows.laid_cableway_frame_seq), ("cableway/slot.gen", Rows.laid_cableway_slot_gen), ("cableway/slot.state", Rows.laid_cableway_slot_state)] [.wider, .wider, .wider, .wider, .wider, .wider, .wider, .wider, .data, .wider, .data, .wider, .wider] true :=
  Program.laidByTextLater_by_one 74 8 3 (by kernel_rfl) (by kernel_rfl) (by kernel_rfl) (by kernel_rfl) (by kernel_rfl) (by kernel_rfl) (fun _ _ => by kernel_rfl)
theorem noOwnUnsafe : Tryz.pinned.checked.prog.headLifts.contains "ownunsafe" = false := by kernel_rfl
theorem tie : Tryz.prog.laidByTextLater [("cableway/frame.kind", Rows.laid_cableway_frame_kind), ("cableway/frame.client", Rows.laid_cableway_frame_client), ("cableway/frame.service", Rows.laid_cableway_frame_service), ("cableway/frame.slot", Rows.laid_cableway_frame_slot), ("cableway/frame.try", Rows.laid_cableway_frame_try), ("cableway/frame.sure", Rows.laid_cableway_frame_sure), ("cableway/frame.stream", Rows.laid_cableway_frame_stream), ("cableway/frame.gen", Rows.laid_cableway_frame_gen), ("cableway/frame.call", Rows.laid_cableway_frame_call), ("cableway/frame.value", Rows.laid_cableway_frame_value), ("cableway/frame.seq", Rows.laid_cableway_frame_seq), ("cableway/slot.gen", Rows.laid_cableway_slot_gen), ("cableway/slot.state", Rows.laid_cableway_slot_state)] [.wider, .wider, .wider, .wider, .wider, .wider, .wider, .wider, .data, .wider, .data, .wider, .wider] true :=
  Program.laidByTextLater.sub seatTie1 ["cableway/frame.kind", "cableway/frame.client", "cableway/frame.service", "cableway/frame.slot", "cableway/frame.try", "cableway/frame.sure", "cableway/frame.stream", "cableway/frame.gen", "cableway/frame.call", "cableway/frame.value", "cableway/frame.seq", "cableway/slot.gen", "cableway/slot.state"] (by kernel_rfl) (by kernel_rfl)
theorem clientRefuses_row_tie : Rows.clientRefusesRow.laidByTextAt .later Tryz.pinned [.wider, .wider, .wider, .wider, .wider, .wider, .wider, .wider, .data, .wider, .data, .wider, .wider] true :=
  OpenClaim.laidByTextAt_later rfl rfl tie noOwnUnsafe
theorem clientCalls_row_tie : Rows.clientCallsRow.laidByTextAt .later Tryz.pinned [.wider, .wider, .wider, .wider, .wider, .wider, .wider, .wider, .data, .wider, .data, .wider, .wider] true :=
  OpenClaim.laidByTextAt_later rfl rfl tie noOwnUnsafe
theorem fabricNone_row_tie : Rows.fabricNoneRow.laidByTextAt .later Tryz.pinned [.wider, .wider, .wider, .wider, .wider, .wider, .wider, .wider, .data, .wider, .data, .wider, .wider] true :=
  OpenClaim.laidByTextAt_later rfl rfl tie noOwnUnsafe
theorem clientRefusesUpto_row_tie : Rows.clientRefusesUptoRow.laidByTextAt .later Tryz.pinned [.wider, .wider, .wider, .wider, .wider, .wider, .wider, .wider, .data, .wider, .data, .wider, .wider] true :=
  OpenClaim.laidByTextAt_later rfl rfl tie noOwnUnsafe
theorem clientCallsUpto_row_tie : Rows.clientCallsUptoRow.laidByTextAt .later Tryz.pinned [.wider, .wider, .wider, .wider, .wider, .wider, .wider, .wider, .data, .wider, .data, .wider, .wider] true :=
  OpenClaim.laidByTextAt_later rfl rfl tie noOwnUnsafe
theorem fabricNoneUpto_row_tie : Rows.fabricNoneUptoRow.laidByTextAt .later Tryz.pinned [.wider, .wider, .wider, .wider, .wider, .wider, .wider, .wider, .data, .wider, .data, .wider, .wider] true :=
  OpenClaim.laidByTextAt_later rfl rfl tie noOwnUnsafe
end Go.Proofs.YthackiallbgeaaaGreatDoor
