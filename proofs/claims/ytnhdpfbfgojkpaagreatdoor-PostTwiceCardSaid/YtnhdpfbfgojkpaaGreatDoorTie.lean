/-
  DERIVED. GIVEN WITH THE SEED: THE PROGRAM's TIES (one call each: nine closed facts by the kernel) AND EACH ROW's TIE, after the 31st guide's Derived/Test/Toyas{Tie, Card}.lean. No idea stands in it: it is a product of the set-up. Laid BY PROGRAM, IN A SANDBOX (cutbox-door.mjs). By AI agents, Wed Nov 11 2026. No macro, syntax, notation, axiom, sorry.
-/
import Derived.Test.YtnhdpfbfgojkpaaGreatDoorRows
import Derived.LaidByTextLater
import Derived.SevenTiedAt
import Derived.LaidSub
import Derived.LaidOnce
namespace Go.Proofs.YtnhdpfbfgojkpaaGreatDoor
open Go
set_option maxRecDepth 100000
theorem seatTie1 : Tryz.prog.laidByTextLater [("cableway/frame.kind", Rows.laid_cableway_frame_kind), ("cableway/frame.client", Rows.laid_cableway_frame_client), ("cableway/frame.service", Rows.laid_cableway_frame_service), ("cableway/frame.slot", Rows.laid_cableway_frame_slot), ("cableway/frame.try", Rows.laid_cableway_frame_try), ("cableway/frame.sure", Rows.laid_cableway_frame_sure), ("cableway/frame.stream", Rows.laid_cableway_frame_stream), ("cableway/frame.gen", Rows.laid_cableway_frame_gen), ("cableway/frame.call", Rows.laid_cableway_frame_call), ("cableway/frame.value", Rows.laid_cableway_frame_value), ("cableway/frame.seq", Rows.laid_cableway_frame_seq), ("cableway/slot.gen", Rows.laid_cableway_slot_gen), ("cableway/slot.state", Rows.laid_cableway_slot_state), ("math/bits.deBruijn32tab", Rows.laid_math_bits_deBruijn32tab), ("math/bits.deBruijn64tab", Rows.laid_math_bits_deBruijn64tab), ("internal/strconv.uint64pow10", Rows.laid_internal_strconv_uint64pow10), ("cableway/gauge.words", Rows.laid_cableway_gauge_words)] [.wider, .wider, .wider, .wider, .wider, .wider, .wider, .wider, .data, .wider, .data, .wider, .wider, .data, .data, .data, .data] true :=
  Program.laidByTextLater_by_one 94 8 65 (by kernel_rfl) (by kernel_rfl) (by kernel_rfl) (by kernel_rfl) (by kernel_rfl) (by kernel_rfl) (fun _ _ => by kernel_rfl)
theorem noOwnUnsafe : Tryz.pinned.checked.prog.headLifts.contains "ownunsafe" = false := by kernel_rfl
theorem tie : Tryz.prog.laidByTextLater [("cableway/frame.kind", Rows.laid_cableway_frame_kind), ("cableway/frame.client", Rows.laid_cableway_frame_client), ("cableway/frame.service", Rows.laid_cableway_frame_service), ("cableway/frame.slot", Rows.laid_cableway_frame_slot), ("cableway/frame.try", Rows.laid_cableway_frame_try), ("cableway/frame.sure", Rows.laid_cableway_frame_sure), ("cableway/frame.stream", Rows.laid_cableway_frame_stream), ("cableway/frame.gen", Rows.laid_cableway_frame_gen), ("cableway/frame.call", Rows.laid_cableway_frame_call), ("cableway/frame.value", Rows.laid_cableway_frame_value), ("cableway/frame.seq", Rows.laid_cableway_frame_seq)] [.wider, .wider, .wider, .wider, .wider, .wider, .wider, .wider, .data, .wider, .data] true :=
  Program.laidByTextLater.sub seatTie1 ["cableway/frame.kind", "cableway/frame.client", "cableway/frame.service", "cableway/frame.slot", "cableway/frame.try", "cableway/frame.sure", "cableway/frame.stream", "cableway/frame.gen", "cableway/frame.call", "cableway/frame.value", "cableway/frame.seq"] (by kernel_rfl) (by kernel_rfl)
theorem postBrings_row_tie : Rows.postBringsRow.laidByTextAt .later Tryz.pinned [.wider, .wider, .wider, .wider, .wider, .wider, .wider, .wider, .data, .wider, .data] true :=
  OpenClaim.laidByTextAt_later rfl rfl tie noOwnUnsafe
theorem postTwice_row_tie : Rows.postTwiceRow.laidByTextAt .later Tryz.pinned [.wider, .wider, .wider, .wider, .wider, .wider, .wider, .wider, .data, .wider, .data] true :=
  OpenClaim.laidByTextAt_later rfl rfl tie noOwnUnsafe
theorem tie2 : Tryz.prog.laidByTextLater [("cableway/frame.kind", Rows.laid_cableway_frame_kind), ("cableway/frame.client", Rows.laid_cableway_frame_client), ("cableway/frame.service", Rows.laid_cableway_frame_service), ("cableway/frame.slot", Rows.laid_cableway_frame_slot), ("cableway/frame.try", Rows.laid_cableway_frame_try), ("cableway/frame.sure", Rows.laid_cableway_frame_sure), ("cableway/frame.stream", Rows.laid_cableway_frame_stream), ("cableway/frame.gen", Rows.laid_cableway_frame_gen), ("cableway/frame.call", Rows.laid_cableway_frame_call), ("cableway/frame.value", Rows.laid_cableway_frame_value), ("cableway/frame.seq", Rows.laid_cableway_frame_seq), ("cableway/slot.gen", Rows.laid_cableway_slot_gen), ("cableway/slot.state", Rows.laid_cableway_slot_state)] [.wider, .wider, .wider, .wider, .wider, .wider, .wider, .wider, .data, .wider, .data, .wider, .wider] true :=
  Program.laidByTextLater.sub seatTie1 ["cableway/frame.kind", "cableway/frame.client", "cableway/frame.service", "cableway/frame.slot", "cableway/frame.try", "cableway/frame.sure", "cableway/frame.stream", "cableway/frame.gen", "cableway/frame.call", "cableway/frame.value", "cableway/frame.seq", "cableway/slot.gen", "cableway/slot.state"] (by kernel_rfl) (by kernel_rfl)
theorem clientOnce_row_tie : Rows.clientOnceRow.laidByTextAt .later Tryz.pinned [.wider, .wider, .wider, .wider, .wider, .wider, .wider, .wider, .data, .wider, .data, .wider, .wider] true :=
  OpenClaim.laidByTextAt_later rfl rfl tie2 noOwnUnsafe
theorem clientRefuses_row_tie : Rows.clientRefusesRow.laidByTextAt .later Tryz.pinned [.wider, .wider, .wider, .wider, .wider, .wider, .wider, .wider, .data, .wider, .data, .wider, .wider] true :=
  OpenClaim.laidByTextAt_later rfl rfl tie2 noOwnUnsafe
theorem clientCalls_row_tie : Rows.clientCallsRow.laidByTextAt .later Tryz.pinned [.wider, .wider, .wider, .wider, .wider, .wider, .wider, .wider, .data, .wider, .data, .wider, .wider] true :=
  OpenClaim.laidByTextAt_later rfl rfl tie2 noOwnUnsafe
theorem fabricMay_row_tie : Rows.fabricMayRow.laidByTextAt .later Tryz.pinned [.wider, .wider, .wider, .wider, .wider, .wider, .wider, .wider, .data, .wider, .data, .wider, .wider] true :=
  OpenClaim.laidByTextAt_later rfl rfl tie2 noOwnUnsafe
theorem fabricWires_row_tie : Rows.fabricWiresRow.laidByTextAt .later Tryz.pinned [.wider, .wider, .wider, .wider, .wider, .wider, .wider, .wider, .data, .wider, .data, .wider, .wider] true :=
  OpenClaim.laidByTextAt_later rfl rfl tie2 noOwnUnsafe
theorem fabricCalls_row_tie : Rows.fabricCallsRow.laidByTextAt .later Tryz.pinned [.wider, .wider, .wider, .wider, .wider, .wider, .wider, .wider, .data, .wider, .data, .wider, .wider] true :=
  OpenClaim.laidByTextAt_later rfl rfl tie2 noOwnUnsafe
theorem fabricNone_row_tie : Rows.fabricNoneRow.laidByTextAt .later Tryz.pinned [.wider, .wider, .wider, .wider, .wider, .wider, .wider, .wider, .data, .wider, .data, .wider, .wider] true :=
  OpenClaim.laidByTextAt_later rfl rfl tie2 noOwnUnsafe
theorem fabricTimeout_row_tie : Rows.fabricTimeoutRow.laidByTextAt .later Tryz.pinned [.wider, .wider, .wider, .wider, .wider, .wider, .wider, .wider, .data, .wider, .data, .wider, .wider] true :=
  OpenClaim.laidByTextAt_later rfl rfl tie2 noOwnUnsafe
theorem machineRounds_row_tie : Rows.machineRoundsRow.laidByTextAt .later Tryz.pinned [.wider, .wider, .wider, .wider, .wider, .wider, .wider, .wider, .data, .wider, .data, .wider, .wider] true :=
  OpenClaim.laidByTextAt_later rfl rfl tie2 noOwnUnsafe
theorem machineCancels_row_tie : Rows.machineCancelsRow.laidByTextAt .later Tryz.pinned [.wider, .wider, .wider, .wider, .wider, .wider, .wider, .wider, .data, .wider, .data, .wider, .wider] true :=
  OpenClaim.laidByTextAt_later rfl rfl tie2 noOwnUnsafe
theorem tie3 : Tryz.prog.laidByTextLater [("cableway/frame.kind", Rows.laid_cableway_frame_kind), ("cableway/frame.client", Rows.laid_cableway_frame_client), ("cableway/frame.service", Rows.laid_cableway_frame_service), ("cableway/frame.slot", Rows.laid_cableway_frame_slot), ("cableway/frame.try", Rows.laid_cableway_frame_try), ("cableway/frame.sure", Rows.laid_cableway_frame_sure), ("cableway/frame.stream", Rows.laid_cableway_frame_stream), ("cableway/frame.gen", Rows.laid_cableway_frame_gen), ("cableway/frame.call", Rows.laid_cableway_frame_call), ("cableway/frame.value", Rows.laid_cableway_frame_value), ("cableway/frame.seq", Rows.laid_cableway_frame_seq), ("cableway/slot.gen", Rows.laid_cableway_slot_gen), ("cableway/slot.state", Rows.laid_cableway_slot_state), ("math/bits.deBruijn32tab", Rows.laid_math_bits_deBruijn32tab), ("math/bits.deBruijn64tab", Rows.laid_math_bits_deBruijn64tab), ("internal/strconv.uint64pow10", Rows.laid_internal_strconv_uint64pow10), ("cableway/gauge.words", Rows.laid_cableway_gauge_words)] [.wider, .wider, .wider, .wider, .wider, .wider, .wider, .wider, .data, .wider, .data, .wider, .wider, .data, .data, .data, .data] true :=
  Program.laidByTextLater.sub seatTie1 ["cableway/frame.kind", "cableway/frame.client", "cableway/frame.service", "cableway/frame.slot", "cableway/frame.try", "cableway/frame.sure", "cableway/frame.stream", "cableway/frame.gen", "cableway/frame.call", "cableway/frame.value", "cableway/frame.seq", "cableway/slot.gen", "cableway/slot.state", "math/bits.deBruijn32tab", "math/bits.deBruijn64tab", "internal/strconv.uint64pow10", "cableway/gauge.words"] (by kernel_rfl) (by kernel_rfl)
theorem gaugeRoom_row_tie : Rows.gaugeRoomRow.laidByTextAt .later Tryz.pinned [.wider, .wider, .wider, .wider, .wider, .wider, .wider, .wider, .data, .wider, .data, .wider, .wider, .data, .data, .data, .data] true :=
  OpenClaim.laidByTextAt_later rfl rfl tie3 noOwnUnsafe
theorem postBringsUpto_row_tie : Rows.postBringsUptoRow.laidByTextAt .later Tryz.pinned [.wider, .wider, .wider, .wider, .wider, .wider, .wider, .wider, .data, .wider, .data] true :=
  OpenClaim.laidByTextAt_later rfl rfl tie noOwnUnsafe
theorem postTwiceUpto_row_tie : Rows.postTwiceUptoRow.laidByTextAt .later Tryz.pinned [.wider, .wider, .wider, .wider, .wider, .wider, .wider, .wider, .data, .wider, .data] true :=
  OpenClaim.laidByTextAt_later rfl rfl tie noOwnUnsafe
theorem clientOnceUpto_row_tie : Rows.clientOnceUptoRow.laidByTextAt .later Tryz.pinned [.wider, .wider, .wider, .wider, .wider, .wider, .wider, .wider, .data, .wider, .data, .wider, .wider] true :=
  OpenClaim.laidByTextAt_later rfl rfl tie2 noOwnUnsafe
theorem clientRefusesUpto_row_tie : Rows.clientRefusesUptoRow.laidByTextAt .later Tryz.pinned [.wider, .wider, .wider, .wider, .wider, .wider, .wider, .wider, .data, .wider, .data, .wider, .wider] true :=
  OpenClaim.laidByTextAt_later rfl rfl tie2 noOwnUnsafe
theorem clientCallsUpto_row_tie : Rows.clientCallsUptoRow.laidByTextAt .later Tryz.pinned [.wider, .wider, .wider, .wider, .wider, .wider, .wider, .wider, .data, .wider, .data, .wider, .wider] true :=
  OpenClaim.laidByTextAt_later rfl rfl tie2 noOwnUnsafe
theorem fabricMayUpto_row_tie : Rows.fabricMayUptoRow.laidByTextAt .later Tryz.pinned [.wider, .wider, .wider, .wider, .wider, .wider, .wider, .wider, .data, .wider, .data, .wider, .wider] true :=
  OpenClaim.laidByTextAt_later rfl rfl tie2 noOwnUnsafe
theorem fabricWiresUpto_row_tie : Rows.fabricWiresUptoRow.laidByTextAt .later Tryz.pinned [.wider, .wider, .wider, .wider, .wider, .wider, .wider, .wider, .data, .wider, .data, .wider, .wider] true :=
  OpenClaim.laidByTextAt_later rfl rfl tie2 noOwnUnsafe
theorem fabricCallsUpto_row_tie : Rows.fabricCallsUptoRow.laidByTextAt .later Tryz.pinned [.wider, .wider, .wider, .wider, .wider, .wider, .wider, .wider, .data, .wider, .data, .wider, .wider] true :=
  OpenClaim.laidByTextAt_later rfl rfl tie2 noOwnUnsafe
theorem fabricNoneUpto_row_tie : Rows.fabricNoneUptoRow.laidByTextAt .later Tryz.pinned [.wider, .wider, .wider, .wider, .wider, .wider, .wider, .wider, .data, .wider, .data, .wider, .wider] true :=
  OpenClaim.laidByTextAt_later rfl rfl tie2 noOwnUnsafe
theorem fabricTimeoutUpto_row_tie : Rows.fabricTimeoutUptoRow.laidByTextAt .later Tryz.pinned [.wider, .wider, .wider, .wider, .wider, .wider, .wider, .wider, .data, .wider, .data, .wider, .wider] true :=
  OpenClaim.laidByTextAt_later rfl rfl tie2 noOwnUnsafe
theorem machineRoundsUpto_row_tie : Rows.machineRoundsUptoRow.laidByTextAt .later Tryz.pinned [.wider, .wider, .wider, .wider, .wider, .wider, .wider, .wider, .data, .wider, .data, .wider, .wider] true :=
  OpenClaim.laidByTextAt_later rfl rfl tie2 noOwnUnsafe
theorem machineCancelsUpto_row_tie : Rows.machineCancelsUptoRow.laidByTextAt .later Tryz.pinned [.wider, .wider, .wider, .wider, .wider, .wider, .wider, .wider, .data, .wider, .data, .wider, .wider] true :=
  OpenClaim.laidByTextAt_later rfl rfl tie2 noOwnUnsafe
theorem gaugeRoomUpto_row_tie : Rows.gaugeRoomUptoRow.laidByTextAt .later Tryz.pinned [.wider, .wider, .wider, .wider, .wider, .wider, .wider, .wider, .data, .wider, .data, .wider, .wider, .data, .data, .data, .data] true :=
  OpenClaim.laidByTextAt_later rfl rfl tie3 noOwnUnsafe
end Go.Proofs.YtnhdpfbfgojkpaaGreatDoor
