/-
  Kernel runs of FabricNone with unknown numbers, a path each.
-/
import Derived.Test.YthackiallbgeaaaGreatDoorIrFabricNone
import Derived.KernelRfl
import Derived.Test.YthackiallbgeaaaGreatDoorLeafFabricNone0
import Derived.Test.YthackiallbgeaaaGreatDoorLeafFabricNone1
import Derived.Test.YthackiallbgeaaaGreatDoorLeafFabricNone2
import Derived.Test.YthackiallbgeaaaGreatDoorLeafFabricNone3
import Derived.Test.YthackiallbgeaaaGreatDoorLeafFabricNone4
import Derived.Test.YthackiallbgeaaaGreatDoorLeafFabricNone5
namespace Go.Proofs.YthackiallbgeaaaGreatDoor.LeafFabricNone
open Go Mx Sx Go.Proofs.YthackiallbgeaaaGreatDoor.IrFabricNone
theorem allT (s : Nat → Int) (hs : Sat s (inB .i64 0 (inB .i64 1 (inB .i64 2 (inB .u32 3 (inB .i64 4 (inB .u32 5 (inB .i64 6 (inB .i64 8 []))))))))) : Fnc IP 5 (dens s [.i .i64 (.tm (.var 8)), .i .i64 (.tm (.var 6)), .agg [.i .i64 (.tm (.var 0)), .i .i64 (.tm (.var 1)), .i .i64 (.tm (.var 2)), .i .u32 (.tm (.var 3)), .q (.eq (.tm (.var 7)) (.lit 0)) true, .i .i64 (.tm (.var 4)), .i .u32 (.tm (.var 5))]]) (rowsH 13 rows) (fun v _ => v = .b true) :=
  (sp (.le (.lit 0) (.tm (.var 8))) (fun hs => (sp (.le (.lit 2) (.tm (.var 8))) (fun hs => (Fnc_sym sruns s 1000 5 _ _ _ hs tT_0)) (fun hs => (sp (.eq (.tm (.var 8)) (.lit 0)) (fun hs => (sp (.lt (.tm (.var 6)) (.lit 0)) (fun hs => (sp (.eq (.tm (.var 0)) (.lit 0)) (fun hs => (Fnc_sym sruns s 1000 5 _ _ _ hs tT_1)) (fun hs => (Fnc_sym sruns s 1000 5 _ _ _ hs tT_2)) hs)) (fun hs => (sp (.le (.lit 2) (.tm (.var 6))) (fun hs => (sp (.eq (.tm (.var 0)) (.lit 0)) (fun hs => (Fnc_sym sruns s 1000 5 _ _ _ hs tT_3)) (fun hs => (Fnc_sym sruns s 1000 5 _ _ _ hs tT_4)) hs)) (fun hs => (sp (.eq (.tm (.var 6)) (.lit 0)) (fun hs => (sp (.eq (.tm (.var 0)) (.lit 0)) (fun hs => (Fnc_sym sruns s 1000 5 _ _ _ hs tT_5)) (fun hs => (Fnc_sym sruns s 1000 5 _ _ _ hs tT_6)) hs)) (fun hs => (sp (.eq (.tm (.var 0)) (.lit 0)) (fun hs => (Fnc_sym sruns s 1000 5 _ _ _ hs tT_7)) (fun hs => (Fnc_sym sruns s 1000 5 _ _ _ hs tT_8)) hs)) hs)) hs)) hs)) (fun hs => (sp (.lt (.tm (.var 6)) (.lit 0)) (fun hs => (sp (.eq (.tm (.var 0)) (.lit 0)) (fun hs => (Fnc_sym sruns s 1000 5 _ _ _ hs tT_9)) (fun hs => (Fnc_sym sruns s 1000 5 _ _ _ hs tT_10)) hs)) (fun hs => (sp (.le (.lit 2) (.tm (.var 6))) (fun hs => (sp (.eq (.tm (.var 0)) (.lit 0)) (fun hs => (Fnc_sym sruns s 1000 5 _ _ _ hs tT_11)) (fun hs => (Fnc_sym sruns s 1000 5 _ _ _ hs tT_12)) hs)) (fun hs => (sp (.eq (.tm (.var 6)) (.lit 0)) (fun hs => (sp (.eq (.tm (.var 0)) (.lit 0)) (fun hs => (Fnc_sym sruns s 1000 5 _ _ _ hs tT_13)) (fun hs => (Fnc_sym sruns s 1000 5 _ _ _ hs tT_14)) hs)) (fun hs => (sp (.eq (.tm (.var 0)) (.lit 0)) (fun hs => (Fnc_sym sruns s 1000 5 _ _ _ hs tT_15)) (fun hs => (Fnc_sym sruns s 1000 5 _ _ _ hs tT_16)) hs)) hs)) hs)) hs)) hs)) hs)) (fun hs => (Fnc_sym sruns s 1000 5 _ _ _ hs tT_17)) hs)
end Go.Proofs.YthackiallbgeaaaGreatDoor.LeafFabricNone
