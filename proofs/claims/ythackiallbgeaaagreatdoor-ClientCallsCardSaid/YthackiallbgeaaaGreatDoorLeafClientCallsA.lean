/-
  Kernel runs of ClientCalls with unknown numbers, a path each.
-/
import Derived.Test.YthackiallbgeaaaGreatDoorIrClientCalls
import Derived.KernelRfl
import Derived.Test.YthackiallbgeaaaGreatDoorLeafClientCalls0
import Derived.Test.YthackiallbgeaaaGreatDoorLeafClientCalls1
import Derived.Test.YthackiallbgeaaaGreatDoorLeafClientCalls2
import Derived.Test.YthackiallbgeaaaGreatDoorLeafClientCalls3
import Derived.Test.YthackiallbgeaaaGreatDoorLeafClientCalls4
import Derived.Test.YthackiallbgeaaaGreatDoorLeafClientCalls5
import Derived.Test.YthackiallbgeaaaGreatDoorLeafClientCalls6
import Derived.Test.YthackiallbgeaaaGreatDoorLeafClientCalls7
import Derived.Test.YthackiallbgeaaaGreatDoorLeafClientCalls8
import Derived.Test.YthackiallbgeaaaGreatDoorLeafClientCalls9
import Derived.Test.YthackiallbgeaaaGreatDoorLeafClientCalls10
import Derived.Test.YthackiallbgeaaaGreatDoorLeafClientCalls11
namespace Go.Proofs.YthackiallbgeaaaGreatDoor.LeafClientCalls
open Go Mx Sx Go.Proofs.YthackiallbgeaaaGreatDoor.IrClientCalls
theorem allT (s : Nat → Int) (hs : Sat s (inB .i64 0 (inB .u32 1 (inB .u32 2 (inB .i64 3 []))))) : Fnc IP 4 (dens s [.i .i64 (.tm (.var 0)), .agg [.i .u32 (.tm (.var 1)), .i .u32 (.tm (.var 2))], .i .i64 (.tm (.var 3))]) (rowsH 13 rows) (fun v _ => v = .b true) :=
  (sp (.eq (.tm (.bin .rem .i64 (.seg 4 0 (.var 0)) (.lit 6))) (.lit 4)) (fun hs => (sp (.eq (.tm (.seg 1 0 (.bin .shr .i64 (.var 3) (.lit 4)))) (.lit 1)) (fun hs => (sp (.eq (.tm (.seg 2 0 (.var 3))) (.lit 1)) (fun hs => (Fnc_sym sruns s 600 4 _ _ _ hs tT_0)) (fun hs => (Fnc_sym sruns s 600 4 _ _ _ hs tT_1)) hs)) (fun hs => (sp (.eq (.tm (.seg 2 0 (.var 3))) (.lit 1)) (fun hs => (Fnc_sym sruns s 600 4 _ _ _ hs tT_2)) (fun hs => (Fnc_sym sruns s 600 4 _ _ _ hs tT_3)) hs)) hs)) (fun hs => (sp (.eq (.tm (.bin .rem .i64 (.seg 4 0 (.var 0)) (.lit 6))) (.lit 5)) (fun hs => (sp (.eq (.tm (.seg 1 0 (.bin .shr .i64 (.var 3) (.lit 4)))) (.lit 1)) (fun hs => (sp (.eq (.tm (.seg 2 0 (.var 3))) (.lit 1)) (fun hs => (Fnc_sym sruns s 600 4 _ _ _ hs tT_4)) (fun hs => (Fnc_sym sruns s 600 4 _ _ _ hs tT_5)) hs)) (fun hs => (sp (.eq (.tm (.seg 2 0 (.var 3))) (.lit 1)) (fun hs => (Fnc_sym sruns s 600 4 _ _ _ hs tT_6)) (fun hs => (Fnc_sym sruns s 600 4 _ _ _ hs tT_7)) hs)) hs)) (fun hs => (sp (.eq (.tm (.seg 1 0 (.bin .shr .i64 (.var 3) (.lit 4)))) (.lit 1)) (fun hs => (sp (.eq (.tm (.seg 2 0 (.var 3))) (.lit 1)) (fun hs => (Fnc_sym sruns s 600 4 _ _ _ hs tT_8)) (fun hs => (Fnc_sym sruns s 600 4 _ _ _ hs tT_9)) hs)) (fun hs => (sp (.eq (.tm (.seg 2 0 (.var 3))) (.lit 1)) (fun hs => (Fnc_sym sruns s 600 4 _ _ _ hs tT_10)) (fun hs => (Fnc_sym sruns s 600 4 _ _ _ hs tT_11)) hs)) hs)) hs)) hs)
end Go.Proofs.YthackiallbgeaaaGreatDoor.LeafClientCalls
