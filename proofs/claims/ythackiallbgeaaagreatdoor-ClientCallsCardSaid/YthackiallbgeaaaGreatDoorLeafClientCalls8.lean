/-
  Kernel runs of ClientCalls with unknown numbers, a path each.
-/
import Derived.Test.YthackiallbgeaaaGreatDoorIrClientCalls
import Derived.KernelRfl
import Derived.Test.YthackiallbgeaaaGreatDoorLeafClientCalls
namespace Go.Proofs.YthackiallbgeaaaGreatDoor.LeafClientCalls
open Go Mx Sx Go.Proofs.YthackiallbgeaaaGreatDoor.IrClientCalls
theorem tT_8 : (srun SP 600 4 [.i .i64 (.tm (.var 0)), .agg [.i .u32 (.tm (.var 1)), .i .u32 (.tm (.var 2))], .i .i64 (.tm (.var 3))] (ofH (((.eq (.tm (.seg 2 0 (.var 3))) (.lit 1)), true) :: ((.eq (.tm (.seg 1 0 (.bin .shr .i64 (.var 3) (.lit 4)))) (.lit 1)), true) :: ((.eq (.tm (.bin .rem .i64 (.seg 4 0 (.var 0)) (.lit 6))) (.lit 5)), false) :: ((.eq (.tm (.bin .rem .i64 (.seg 4 0 (.var 0)) (.lit 6))) (.lit 4)), false) :: (inB .i64 0 (inB .u32 1 (inB .u32 2 (inB .i64 3 []))))) (rowsH 13 rows))).allT = true := by kernel_rfl
end Go.Proofs.YthackiallbgeaaaGreatDoor.LeafClientCalls
