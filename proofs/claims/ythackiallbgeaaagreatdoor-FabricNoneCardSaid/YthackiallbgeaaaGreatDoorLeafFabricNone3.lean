/-
  Kernel runs of FabricNone with unknown numbers, a path each.
-/
import Derived.Test.YthackiallbgeaaaGreatDoorIrFabricNone
import Derived.KernelRfl
import Derived.Test.YthackiallbgeaaaGreatDoorLeafFabricNone
namespace Go.Proofs.YthackiallbgeaaaGreatDoor.LeafFabricNone
open Go Mx Sx Go.Proofs.YthackiallbgeaaaGreatDoor.IrFabricNone
theorem tT_9 : (srun SP 1000 5 [.i .i64 (.tm (.var 8)), .i .i64 (.tm (.var 6)), .agg [.i .i64 (.tm (.var 0)), .i .i64 (.tm (.var 1)), .i .i64 (.tm (.var 2)), .i .u32 (.tm (.var 3)), .q (.eq (.tm (.var 7)) (.lit 0)) true, .i .i64 (.tm (.var 4)), .i .u32 (.tm (.var 5))]] (ofH (((.eq (.tm (.var 0)) (.lit 0)), true) :: ((.lt (.tm (.var 6)) (.lit 0)), true) :: ((.eq (.tm (.var 8)) (.lit 0)), false) :: ((.le (.lit 2) (.tm (.var 8))), false) :: ((.le (.lit 0) (.tm (.var 8))), true) :: (inB .i64 0 (inB .i64 1 (inB .i64 2 (inB .u32 3 (inB .i64 4 (inB .u32 5 (inB .i64 6 (inB .i64 8 []))))))))) (rowsH 13 rows))).allT = true := by kernel_rfl
theorem tT_10 : (srun SP 1000 5 [.i .i64 (.tm (.var 8)), .i .i64 (.tm (.var 6)), .agg [.i .i64 (.tm (.var 0)), .i .i64 (.tm (.var 1)), .i .i64 (.tm (.var 2)), .i .u32 (.tm (.var 3)), .q (.eq (.tm (.var 7)) (.lit 0)) true, .i .i64 (.tm (.var 4)), .i .u32 (.tm (.var 5))]] (ofH (((.eq (.tm (.var 0)) (.lit 0)), false) :: ((.lt (.tm (.var 6)) (.lit 0)), true) :: ((.eq (.tm (.var 8)) (.lit 0)), false) :: ((.le (.lit 2) (.tm (.var 8))), false) :: ((.le (.lit 0) (.tm (.var 8))), true) :: (inB .i64 0 (inB .i64 1 (inB .i64 2 (inB .u32 3 (inB .i64 4 (inB .u32 5 (inB .i64 6 (inB .i64 8 []))))))))) (rowsH 13 rows))).allT = true := by kernel_rfl
theorem tT_11 : (srun SP 1000 5 [.i .i64 (.tm (.var 8)), .i .i64 (.tm (.var 6)), .agg [.i .i64 (.tm (.var 0)), .i .i64 (.tm (.var 1)), .i .i64 (.tm (.var 2)), .i .u32 (.tm (.var 3)), .q (.eq (.tm (.var 7)) (.lit 0)) true, .i .i64 (.tm (.var 4)), .i .u32 (.tm (.var 5))]] (ofH (((.eq (.tm (.var 0)) (.lit 0)), true) :: ((.le (.lit 2) (.tm (.var 6))), true) :: ((.lt (.tm (.var 6)) (.lit 0)), false) :: ((.eq (.tm (.var 8)) (.lit 0)), false) :: ((.le (.lit 2) (.tm (.var 8))), false) :: ((.le (.lit 0) (.tm (.var 8))), true) :: (inB .i64 0 (inB .i64 1 (inB .i64 2 (inB .u32 3 (inB .i64 4 (inB .u32 5 (inB .i64 6 (inB .i64 8 []))))))))) (rowsH 13 rows))).allT = true := by kernel_rfl
end Go.Proofs.YthackiallbgeaaaGreatDoor.LeafFabricNone
