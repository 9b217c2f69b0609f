/-
  Kernel runs of ClientRefuses with unknown numbers, a path each.
-/
import Derived.Test.YthackiallbgeaaaGreatDoorIrClientRefuses
import Derived.KernelRfl
import Derived.Test.YthackiallbgeaaaGreatDoorLeafClientRefuses
namespace Go.Proofs.YthackiallbgeaaaGreatDoor.LeafClientRefuses
open Go Mx Sx Go.Proofs.YthackiallbgeaaaGreatDoor.IrClientRefuses
theorem tT_0 : (srun SP 600 3 [.agg [.i .i64 (.tm (.var 0)), .i .i64 (.tm (.var 1)), .i .i64 (.tm (.var 2)), .i .u32 (.tm (.var 3)), .q (.eq (.tm (.var 7)) (.lit 0)) true, .i .i64 (.tm (.var 4)), .i .u32 (.tm (.var 5))], .i .i64 (.tm (.var 6))] (ofH (((.lt (.tm (.var 4)) (.lit 0)), true) :: ((.le (.tm (.var 4)) (.lit 0)), true) :: ((.eq (.tm (.bin .rem .i64 (.seg 4 0 (.var 6)) (.lit 8))) (.lit 0)), true) :: (inB .i64 0 (inB .i64 1 (inB .i64 2 (inB .u32 3 (inB .i64 4 (inB .u32 5 (inB .i64 6 [])))))))) (rowsH 13 rows))).allT = true := by kernel_rfl
theorem tT_1 : (srun SP 600 3 [.agg [.i .i64 (.tm (.var 0)), .i .i64 (.tm (.var 1)), .i .i64 (.tm (.var 2)), .i .u32 (.tm (.var 3)), .q (.eq (.tm (.var 7)) (.lit 0)) true, .i .i64 (.tm (.var 4)), .i .u32 (.tm (.var 5))], .i .i64 (.tm (.var 6))] (ofH (((.lt (.tm (.var 4)) (.lit 0)), false) :: ((.le (.tm (.var 4)) (.lit 0)), true) :: ((.eq (.tm (.bin .rem .i64 (.seg 4 0 (.var 6)) (.lit 8))) (.lit 0)), true) :: (inB .i64 0 (inB .i64 1 (inB .i64 2 (inB .u32 3 (inB .i64 4 (inB .u32 5 (inB .i64 6 [])))))))) (rowsH 13 rows))).allT = true := by kernel_rfl
theorem tT_2 : (srun SP 600 3 [.agg [.i .i64 (.tm (.var 0)), .i .i64 (.tm (.var 1)), .i .i64 (.tm (.var 2)), .i .u32 (.tm (.var 3)), .q (.eq (.tm (.var 7)) (.lit 0)) true, .i .i64 (.tm (.var 4)), .i .u32 (.tm (.var 5))], .i .i64 (.tm (.var 6))] (ofH (((.lt (.lit 1099511627776) (.tm (.var 4))), true) :: ((.le (.lit 1099511627776) (.tm (.var 4))), true) :: ((.le (.tm (.var 4)) (.lit 0)), false) :: ((.eq (.tm (.bin .rem .i64 (.seg 4 0 (.var 6)) (.lit 8))) (.lit 0)), true) :: (inB .i64 0 (inB .i64 1 (inB .i64 2 (inB .u32 3 (inB .i64 4 (inB .u32 5 (inB .i64 6 [])))))))) (rowsH 13 rows))).allT = true := by kernel_rfl
end Go.Proofs.YthackiallbgeaaaGreatDoor.LeafClientRefuses
