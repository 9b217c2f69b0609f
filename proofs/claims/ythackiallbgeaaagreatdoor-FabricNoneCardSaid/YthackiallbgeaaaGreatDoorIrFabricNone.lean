/-
  The abstract machine's text of the functions that FabricNone reaches, and: it is the loaded program's. Then the functions without temporaries.
-/
import Derived.Test.YthackiallbgeaaaGreatDoorProg
import Derived.Test.YthackiallbgeaaaGreatDoorMxT
import Derived.Test.YthackiallbgeaaaGreatDoorMxU
import Derived.Test.YthackiallbgeaaaGreatDoorMxV
import Derived.Test.YthackiallbgeaaaGreatDoorMxX
import Derived.Test.YthackiallbgeaaaGreatDoorSxH
import Derived.Test.YthackiallbgeaaaGreatDoorIrFabricNoneP0
namespace Go.Proofs.YthackiallbgeaaaGreatDoor.IrFabricNone
open Go Mx Sx
noncomputable section
set_option maxRecDepth 100000
set_option linter.unusedVariables false
def sQ129 (C : CT) (k : Nat) : QT := QrS k rs129
def sK129 (C : CT) (k : Nat) (x0 x1 : S) (h : SH) : Tree := (kK (C 173 [x0, x1] h) (fun v8 h9 => (kI k .geq v8 (l64 0) h9 fun v11 h12 => (Tree.leaf v11 h12))))
theorem sp129 (C : CT) (k : Nat) : ds C k c129 (sQ129 C k) = fun e h => (sK129 C k (e 0) (e 1) h) := by kernel_rfl
def SF129 : SF := sf2 sK129
theorem so129 : SOK IP 129 SF129 := sok2 ir129 rfl (by kernel_rfl) (by kernel_rfl) fun C k x0 x1 h => congrFun (congrFun (sp129 C k) _) h
def sQ130 (C : CT) (k : Nat) : QT := QrS k rs130
def sT130_1 (C : CT) (k : Nat) (x16 x18 x20 : S) (h : SH) : Tree := (kB k (gd x16 true uS (fun h1 => sBin .sub (l64 64) x20 (SH.pc h1))) (fun v2 h3 => (kB k (gd x16 true uS (fun h4 => sBin .leq x18 v2 (SH.pc h4))) (fun v5 h6 => (kB k (fun h7 => sPick x16 v5 (S.b false) (SH.pc h7)) (fun v8 h9 => (Tree.leaf v8 h9)) h6)) h3)) h)
def sT130_2 (C : CT) (k : Nat) (x1 x16 x17 : S) (h : SH) : Tree := (kB k (gd x16 true uS (fun h1 => sLd1 x17 h1)) (fun v2 h3 => (kB k (gd x16 true uS (fun h4 => sFa 0 x1)) (fun v5 h6 => (kB k (gd x16 true uS (fun h7 => sLd1 v5 h7)) (fun v8 h9 => (sT130_1 C k x16 v2 v8 h9)) h6)) h3)) h)
def sT130_3 (C : CT) (k : Nat) (x1 x11 x13 : S) (h : SH) : Tree := (kB k (gd x11 true uS (fun h1 => sBin .lss x13 (l64 64) (SH.pc h1))) (fun v2 h3 => (kB k (fun h4 => sPick x11 v2 (S.b false) (SH.pc h4)) (fun v5 h6 => (kB k (gd v5 true uS (fun h9 => sFa 1 x1)) (fun v10 h11 => (sT130_2 C k x1 v5 v10 h11)) h6)) h3)) h)
def sT130_4 (C : CT) (k : Nat) (x1 x6 x9 : S) (h : SH) : Tree := (kB k (fun h1 => sPick x6 x9 (S.b false) (SH.pc h1)) (fun v2 h3 => (kB k (gd v2 true uS (fun h6 => sFa 0 x1)) (fun v7 h8 => (kB k (gd v2 true uS (fun h9 => sLd1 v7 h9)) (fun v10 h11 => (sT130_3 C k x1 v2 v10 h11)) h8)) h3)) h)
def sT130_5 (C : CT) (k : Nat) (x1 x6 : S) (h : SH) : Tree := (kB k (gd x6 true uS (fun h1 => sFa 1 x1)) (fun v2 h3 => (kB k (gd x6 true uS (fun h4 => sLd1 v2 h4)) (fun v5 h6 => (kB k (gd x6 true uS (fun h7 => sBin .geq v5 (l64 1) (SH.pc h7))) (fun v8 h9 => (sT130_4 C k x1 x6 v8 h9)) h6)) h3)) h)
def sK130 (C : CT) (k : Nat) (x0 : S) (h : SH) : Tree := (kB k (fun h1 => sBox x0 h1) (fun r3 _ => (kF k 0 r3.1 r3.2 fun v7 h8 => (kL k v7 h8 fun v10 h11 => (kI k .geq v10 (l64 0) h11 fun v13 h14 => (sT130_5 C k r3.1 v13 h14))))) h)
theorem sp130 (C : CT) (k : Nat) : ds C k c130 (sQ130 C k) = fun e h => (sK130 C k (e 0) h) := by kernel_rfl
def SF130 : SF := sf1 sK130
theorem so130 : SOK IP 130 SF130 := sok1 ir130 rfl (by kernel_rfl) (by kernel_rfl) fun C k x0 h => congrFun (congrFun (sp130 C k) _) h
def sQ131 (C : CT) (k : Nat) : QT := QrS k rs131
def sK131 (C : CT) (k : Nat) (x0 : S) (h : SH) : Tree := (kB k (fun h1 => sBox x0 h1) (fun r3 _ => (kA k 2 r3.1 r3.2 fun v7 h8 => (kK (C 130 [v7] h8) (fun v10 h11 => (kB k (fun h12 => sUn .not v10 (SH.pc h12)) (fun v13 h14 => (kS v13 (fun h15 => (Tree.leaf (S.i .u64 (.lit 0)) h15)) (fun h16 => (kA k 2 r3.1 h16 fun v20 h21 => (kK (C 132 [v20] h21) (fun v23 h24 => (kF k 0 r3.1 h24 fun v26 h27 => (kL k v26 h27 fun v29 h30 => (kI k .shl v23 v29 h30 fun v32 h33 => (kC (stdyS false 1 v26 h21 h24) (Tree.leaf v32 h33))))))))) h14)) h11))))) h)
theorem sp131 (C : CT) (k : Nat) : ds C k c131 (sQ131 C k) = fun e h => (sK131 C k (e 0) h) := by kernel_rfl
def SF131 : SF := sf1 sK131
theorem so131 : SOK IP 131 SF131 := sok1 ir131 rfl (by kernel_rfl) (by kernel_rfl) fun C k x0 h => congrFun (congrFun (sp131 C k) _) h
def sQ132 (C : CT) (k : Nat) : QT := QrS k rs132
def sT132_1 (C : CT) (k : Nat) (x8 : S) (h : SH) : Tree := (kI k .shr (S.i .u64 (.lit 18446744073709551615)) x8 h fun v2 h3 => (Tree.leaf v2 h3))
def sK132 (C : CT) (k : Nat) (x0 : S) (h : SH) : Tree := (kB k (fun h1 => sBox x0 h1) (fun r3 _ => (kA k 2 r3.1 r3.2 fun v7 h8 => (kK (C 130 [v7] h8) (fun v10 h11 => (kB k (fun h12 => sUn .not v10 (SH.pc h12)) (fun v13 h14 => (kS v13 (fun h15 => (Tree.leaf (S.i .u64 (.lit 0)) h15)) (fun h16 => (kF k 1 r3.1 h16 fun v20 h21 => (kL k v20 h21 fun v23 h24 => (kI k .sub (l64 64) v23 h24 fun v26 h27 => (sT132_1 C k v26 h27))))) h14)) h11))))) h)
theorem sp132 (C : CT) (k : Nat) : ds C k c132 (sQ132 C k) = fun e h => (sK132 C k (e 0) h) := by kernel_rfl
def SF132 : SF := sf1 sK132
theorem so132 : SOK IP 132 SF132 := sok1 ir132 rfl (by kernel_rfl) (by kernel_rfl) fun C k x0 h => congrFun (congrFun (sp132 C k) _) h
def sQ133 (C : CT) (k : Nat) : QT := QrS k rs133
def sT133_1 (C : CT) (k : Nat) (x29 x31 : S) (h : SH) : Tree := (kB k (gd x29 true uS (fun h1 => sBin .leq x31 (l64 16777215) (SH.pc h1))) (fun v2 h3 => (kB k (fun h4 => sPick x29 v2 (S.b false) (SH.pc h4)) (fun v5 h6 => (Tree.leaf v5 h6)) h3)) h)
def sT133_2 (C : CT) (k : Nat) (x1 x24 x27 : S) (h : SH) : Tree := (kB k (fun h1 => sPick x24 x27 (S.b false) (SH.pc h1)) (fun v2 h3 => (kB k (gd v2 true uS (fun h6 => sFa 2 x1)) (fun v7 h8 => (kB k (gd v2 true uS (fun h9 => sLd1 v7 h9)) (fun v10 h11 => (sT133_1 C k v2 v10 h11)) h8)) h3)) h)
def sT133_3 (C : CT) (k : Nat) (x1 x24 : S) (h : SH) : Tree := (kB k (gd x24 true uS (fun h1 => sFa 2 x1)) (fun v2 h3 => (kB k (gd x24 true uS (fun h4 => sLd1 v2 h4)) (fun v5 h6 => (kB k (gd x24 true uS (fun h7 => sBin .geq v5 (l64 1) (SH.pc h7))) (fun v8 h9 => (sT133_2 C k x1 x24 v8 h9)) h6)) h3)) h)
def sT133_4 (C : CT) (k : Nat) (x1 x16 x18 x20 : S) (h : SH) : Tree := (kB k (gd x16 true uS (fun h1 => sBin .sub (l64 16384) x20 (SH.pc h1))) (fun v2 h3 => (kB k (gd x16 true uS (fun h4 => sBin .leq x18 v2 (SH.pc h4))) (fun v5 h6 => (kB k (fun h7 => sPick x16 v5 (S.b false) (SH.pc h7)) (fun v8 h9 => (sT133_3 C k x1 v8 h9)) h6)) h3)) h)
def sT133_5 (C : CT) (k : Nat) (x1 x16 x17 : S) (h : SH) : Tree := (kB k (gd x16 true uS (fun h1 => sLd1 x17 h1)) (fun v2 h3 => (kB k (gd x16 true uS (fun h4 => sFa 1 x1)) (fun v5 h6 => (kB k (gd x16 true uS (fun h7 => sLd1 v5 h7)) (fun v8 h9 => (sT133_4 C k x1 x16 v2 v8 h9)) h6)) h3)) h)
def sT133_6 (C : CT) (k : Nat) (x1 x11 x13 : S) (h : SH) : Tree := (kB k (gd x11 true uS (fun h1 => sBin .geq x13 (l64 0) (SH.pc h1))) (fun v2 h3 => (kB k (fun h4 => sPick x11 v2 (S.b false) (SH.pc h4)) (fun v5 h6 => (kB k (gd v5 true uS (fun h9 => sFa 0 x1)) (fun v10 h11 => (sT133_5 C k x1 v5 v10 h11)) h6)) h3)) h)
def sT133_7 (C : CT) (k : Nat) (x1 x6 x9 : S) (h : SH) : Tree := (kB k (fun h1 => sPick x6 x9 (S.b false) (SH.pc h1)) (fun v2 h3 => (kB k (gd v2 true uS (fun h6 => sFa 0 x1)) (fun v7 h8 => (kB k (gd v2 true uS (fun h9 => sLd1 v7 h9)) (fun v10 h11 => (sT133_6 C k x1 v2 v10 h11)) h8)) h3)) h)
def sT133_8 (C : CT) (k : Nat) (x1 x6 : S) (h : SH) : Tree := (kB k (gd x6 true uS (fun h1 => sFa 1 x1)) (fun v2 h3 => (kB k (gd x6 true uS (fun h4 => sLd1 v2 h4)) (fun v5 h6 => (kB k (gd x6 true uS (fun h7 => sBin .leq v5 (l64 16) (SH.pc h7))) (fun v8 h9 => (sT133_7 C k x1 x6 v8 h9)) h6)) h3)) h)
def sK133 (C : CT) (k : Nat) (x0 : S) (h : SH) : Tree := (kB k (fun h1 => sBox x0 h1) (fun r3 _ => (kF k 1 r3.1 r3.2 fun v7 h8 => (kL k v7 h8 fun v10 h11 => (kI k .geq v10 (l64 1) h11 fun v13 h14 => (sT133_8 C k r3.1 v13 h14))))) h)
theorem sp133 (C : CT) (k : Nat) : ds C k c133 (sQ133 C k) = fun e h => (sK133 C k (e 0) h) := by kernel_rfl
def SF133 : SF := sf1 sK133
theorem so133 : SOK IP 133 SF133 := sok1 ir133 rfl (by kernel_rfl) (by kernel_rfl) fun C k x0 h => congrFun (congrFun (sp133 C k) _) h
def sQ134 (C : CT) (k : Nat) : QT := QrS k rs134
def sQ134_1 (C : CT) (k : Nat) : QT := (sQ134 C k)
def sK134_1 (C : CT) (k : Nat) (x3 : S) (h : SH) : Tree := (Tree.leaf x3 h)
def sJ134_1 (C : CT) (k : Nat) : ES → SH → Tree := fun e h => (sK134_1 C k (e 3) h)
theorem sp134_1 (C : CT) (k : Nat) : ds C k c134_1 (sQ134_1 C k) = (sJ134_1 C k) := by kernel_rfl
def sR134_2 (C : CT) (k : Nat) : QT := (QbS 0 (QxS (sJ134_1 C k) (sQ134 C k)))
def sQ134_2 (C : CT) (k : Nat) (g134_2 : S → S → S → SH → Tree) : QT := QxS (fun e h => g134_2 (e 3) (e 16) (e 17) h) (sR134_2 C k)
def sT134_3 (C : CT) (k : Nat) (g134_2 : S → S → S → SH → Tree) (x3 x16 x17 x32 : S) (h : SH) : Tree := (kT k 1 x32 (S.b true) h fun r3 _ => (kI k .add x17 (l64 1) r3.2 fun v5 h6 => (g134_2 x3 x16 v5 h6)))
def sT134_4 (C : CT) (k : Nat) (g134_2 : S → S → S → SH → Tree) (x3 x16 x17 x23 x24 x28 x29 x30 : S) (h : SH) : Tree := (kB k (fun h1 => sIa 1 x23 x24 (SH.pc h1)) (fun v2 h3 => (kT k 1 v2 x30 h3 fun r6 _ => (kB k (fun h7 => sIa 1 x28 x29 (SH.pc h7)) (fun v8 h9 => (sT134_3 C k g134_2 x3 x16 x17 v8 h9)) r6.2))) h)
def sT134_5 (C : CT) (k : Nat) (g134_2 : S → S → S → SH → Tree) (x3 x4 x16 x17 x23 x24 x25 : S) (h : SH) : Tree := (kN k x25 h fun v2 h3 => (kF k 4 v2 h3 fun v5 h6 => (kL k v5 h6 fun v8 h9 => (sT134_4 C k g134_2 x3 x16 x17 x23 x24 v8 x4 x4 h9))))
def sL134_2 (C : CT) (k : Nat) (g134_2 : S → S → S → SH → Tree) (x3 x16 x17 : S) (h : SH) : Tree := (kI k .lss x17 x16 h fun v2 h3 => (kS v2 (fun h4 => (kN k x3 h4 fun v13 h14 => (kF k 1 v13 h14 fun v16 h17 => (kL k v16 h17 fun v19 h20 => (sT134_5 C k g134_2 x3 x17 x16 x17 v19 x17 x3 h20))))) (fun h5 => (sK134_1 C k x3 h5)) h3))
theorem sp134_2 (C : CT) (k : Nat) (g134_2 : S → S → S → SH → Tree) : ds C k c134_2 (sQ134_2 C k g134_2) = fun e h => (sL134_2 C k g134_2 (e 3) (e 16) (e 17) h) := by kernel_rfl
def sW134_2 (C : CT) (k : Nat) (x3 x16 x17 : S) (h : SH) : Tree := kFix k (fun (g : S × S × S × Unit → SH → Tree) (x : S × S × S × Unit) h => sL134_2 C k (fun y3 y16 y17 h => g (y3, y16, y17, ()) h) x.1 x.2.1 x.2.2.1 h) (x3, x16, x17, ()) h
theorem sn134_2 (C : CT) (k : Nat) : ∀ g : S × S × S × Unit → SH → Tree, ds C k c134_2 (QxS (fun e h => g ((fun e : ES => ((e 3, e 16, e 17, ()) : S × S × S × Unit)) e) h) (sR134_2 C k)) = fun e h => (fun (g : S × S × S × Unit → SH → Tree) (x : S × S × S × Unit) h => sL134_2 C k (fun y3 y16 y17 h => g (y3, y16, y17, ()) h) x.1 x.2.1 x.2.2.1 h) g ((fun e : ES => ((e 3, e 16, e 17, ()) : S × S × S × Unit)) e) h := fun g => sp134_2 C k (fun y3 y16 y17 h => g (y3, y16, y17, ()) h)
theorem sw134_2 (C : CT) (k : Nat) : ds C k (.loop c134_2) (sR134_2 C k) = fun e h => (sW134_2 C k (e 3) (e 16) (e 17) h) := sloop_eq (fun e : ES => ((e 3, e 16, e 17, ()) : S × S × S × Unit)) (fun (g : S × S × S × Unit → SH → Tree) (x : S × S × S × Unit) h => sL134_2 C k (fun y3 y16 y17 h => g (y3, y16, y17, ()) h) x.1 x.2.1 x.2.2.1 h) (sn134_2 C k)
def sT134_6 (C : CT) (k : Nat) (x0 x14 : S) (h : SH) : Tree := (kB k (fun h1 => sBox x14 h1) (fun r3 _ => (sW134_2 C k r3.1 x0 (l64 0) r3.2)) h)
def sK134 (C : CT) (k : Nat) (x0 : S) (h : SH) : Tree := (kB k (fun h5 => sMax x0 [(l64 0)] (SH.pc h5)) (fun v6 h7 => (kB k (fun h8 => sMin v6 [(l64 1024)] (SH.pc h8)) (fun v9 h10 => (kB k (fun h17 => sMake 8 z17 v9 h17) (fun r19 _ => (kB k (fun h24 => sMake 1 [(.b false)] v9 h24) (fun r26 _ => (kB k (fun h27 => sBld [(.i .i64 0), .nsl, (.i .i64 0), (.i .i64 0), .nsl] [(0, 1, v9), (1, 1, r19.1), (3, 1, v9), (4, 1, r26.1)]) (fun v28 h29 => (sT134_6 C k v9 v28 h29)) r26.2)) r19.2)) h10)) h7)) h)
theorem sp134 (C : CT) (k : Nat) : ds C k c134 (sQ134 C k) = fun e h => (sK134 C k (e 0) h) := by
  refine Eq.trans (sseq_eq (sseq_eq (sseq_eq (sseq_eq (sp134_1 C k) (sseq_eq (sblock_eq (sw134_2 C k)) rfl)) rfl) rfl) rfl) ?_
  kernel_rfl
def SF134 : SF := sf1 sK134
theorem so134 : SOK IP 134 SF134 := sok1 ir134 rfl (by kernel_rfl) (by kernel_rfl) fun C k x0 h => congrFun (congrFun (sp134 C k) _) h
def sQ135 (C : CT) (k : Nat) : QT := QrS k rs135
def sK135 (C : CT) (k : Nat) (x0 : S) (h : SH) : Tree := (kB k (fun h5 => sMax x0 [(l64 0)] (SH.pc h5)) (fun v6 h7 => (kB k (fun h8 => sMin v6 [(l64 1048576)] (SH.pc h8)) (fun v9 h10 => (Tree.leaf v9 h10)) h7)) h)
theorem sp135 (C : CT) (k : Nat) : ds C k c135 (sQ135 C k) = fun e h => (sK135 C k (e 0) h) := by kernel_rfl
def SF135 : SF := sf1 sK135
theorem so135 : SOK IP 135 SF135 := sok1 ir135 rfl (by kernel_rfl) (by kernel_rfl) fun C k x0 h => congrFun (congrFun (sp135 C k) _) h
def sQ136 (C : CT) (k : Nat) : QT := QrS k rs136
def sT136_1 (C : CT) (k : Nat) (x12 : S) (h : SH) : Tree := (kB k (fun h1 => sBox x12 h1) (fun r3 _ => (Tree.leaf r3.1 r3.2)) h)
def sT136_2 (C : CT) (k : Nat) (x7 x9 : S) (h : SH) : Tree := (kB k (fun h1 => sMin x9 [(l64 16)] (SH.pc h1)) (fun v2 h3 => (kB k (fun h4 => sMake 16 z14 v2 h4) (fun r6 _ => (kB k (fun h7 => sBld [(.i .i64 0), .nsl, (.i .i64 0)] [(0, 1, x7), (1, 1, r6.1)]) (fun v8 h9 => (sT136_1 C k v8 h9)) r6.2)) h3)) h)
def sK136 (C : CT) (k : Nat) (x0 x1 : S) (h : SH) : Tree := (kK (C 128 [x1] h) (fun v6 h7 => (kB k (fun h8 => sMax v6 [(l64 1)] (SH.pc h8)) (fun v9 h10 => (kB k (fun h13 => sMax x0 [(l64 1)] (SH.pc h13)) (fun v14 h15 => (sT136_2 C k v9 v14 h15)) h10)) h7)))
theorem sp136 (C : CT) (k : Nat) : ds C k c136 (sQ136 C k) = fun e h => (sK136 C k (e 0) (e 1) h) := by kernel_rfl
def SF136 : SF := sf2 sK136
theorem so136 : SOK IP 136 SF136 := sok2 ir136 rfl (by kernel_rfl) (by kernel_rfl) fun C k x0 x1 h => congrFun (congrFun (sp136 C k) _) h
def sQ139 (C : CT) (k : Nat) : QT := QrS k rs139
def sQ139_1 (C : CT) (k : Nat) : QT := (sQ139 C k)
def sQ139_2 (C : CT) (k : Nat) : QT := (sQ139_1 C k)
def sK139_2 (C : CT) (k : Nat) (x0 : S) (h : SH) : Tree := (Tree.leaf x0 h)
def sJ139_2 (C : CT) (k : Nat) : ES → SH → Tree := fun e h => (sK139_2 C k (e 0) h)
theorem sp139_2 (C : CT) (k : Nat) : ds C k c139_2 (sQ139_2 C k) = (sJ139_2 C k) := by kernel_rfl
def sT139_3 (C : CT) (k : Nat) (x22 x23 : S) (h : SH) : Tree := (kB k (fun h1 => sLens x23) (fun v2 h3 => (kB k (fun h4 => sSls 2 x22 none (some v2) none (SH.pc h4)) (fun v5 h6 => (sK139_2 C k v5 h6)) h3)) h)
def sT139_4 (C : CT) (k : Nat) (x0 x1 : S) (h : SH) : Tree := (kB k (fun h5 => via1 vCaps x0 (SH.pc h5)) (fun v6 h7 => (kB k (fun h8 => sSls 2 x0 none (some v6) none (SH.pc h8)) (fun v9 h10 => (kB k (fun h13 => sAppz 2 16 [(.i .i64 0), (.i .i64 0)] v9 x1 h13) (fun r15 _ => (sT139_3 C k r15.1 x0 r15.2)) h10)) h7)) h)
def sT139_5 (C : CT) (k : Nat) (x0 x8 x13 : S) (h : SH) : Tree := (kI k .sub x8 x13 h fun v2 h3 => (kI k .gtr v2 (l64 0) h3 fun v9 h10 => (kS v9 (fun h11 => (sT139_4 C k x0 v2 h11)) (fun h12 => (sK139_2 C k x0 h12)) h10)))
def sK139_1 (C : CT) (k : Nat) (x0 x1 : S) (h : SH) : Tree := (kB k (fun h5 => via1 vCaps x0 (SH.pc h5)) (fun v6 h7 => (kB k (fun h10 => sLens x0) (fun v11 h12 => (kI k .sub v6 v11 h12 fun v14 h15 => (sT139_5 C k x0 x1 v14 h15))) h7)) h)
def sJ139_1 (C : CT) (k : Nat) : ES → SH → Tree := fun e h => (sK139_1 C k (e 0) (e 1) h)
theorem sp139_1 (C : CT) (k : Nat) : ds C k c139_1 (sQ139_1 C k) = (sJ139_1 C k) := by
  refine Eq.trans (sseq_eq (sp139_2 C k) rfl) ?_
  kernel_rfl
def sK139 (C : CT) (k : Nat) (x0 x1 : S) (h : SH) : Tree := (kI k .lss x1 (l64 0) h fun v6 h7 => (kS v6 (fun h8 => (kN k S.nfn h8 fun v11 h12 => (kN k S.nfn h12 fun _ h15 => (sK139_1 C k x0 x1 h15)))) (fun h9 => (sK139_1 C k x0 x1 h9)) h7))
theorem sp139 (C : CT) (k : Nat) : ds C k c139 (sQ139 C k) = fun e h => (sK139 C k (e 0) (e 1) h) := by
  refine Eq.trans (sseq_eq (sseq_eq (sp139_1 C k) rfl) rfl) ?_
  kernel_rfl
def SF139 : SF := sf2 sK139
theorem so139 : SOK IP 139 SF139 := sok2 ir139 rfl (by kernel_rfl) (by kernel_rfl) fun C k x0 x1 h => congrFun (congrFun (sp139 C k) _) h
def sQ140 (C : CT) (k : Nat) : QT := QrS k rs140
def sT140_1 (C : CT) (k : Nat) (x0 x3 x75 x78 : S) (h : SH) : Tree := (kX k x75 1 h fun v2 h3 => (kB k (fun h4 => sZero z18 h4) (fun r6 _ => (kT k 3 r6.1 x78 r6.2 fun r9 _ => (kA k 11 x3 r9.2 fun v19 h20 => (kA k 11 x3 h20 fun v24 h25 => (kK (C 179 [x0, v24] h25) (fun v27 h28 => (kA k 3 r6.1 h28 fun v30 h31 => (kK (C 178 [v27, v30] h31) (fun v33 h34 => (kN k x0 h34 fun v36 h37 => (kF k 60 v36 h37 fun v39 h40 => (kF k 0 v39 h40 fun v42 h43 => (kT k 1 v42 (l64 2) h43 fun r46 _ => (kN k x0 r46.2 fun v48 h49 => (kF k 60 v48 h49 fun v51 h52 => (kF k 24 v51 h52 fun v54 h55 => (kT k 11 v54 v19 h55 fun r58 _ => (kN k x0 r58.2 fun v60 h61 => (kF k 60 v60 h61 fun v63 h64 => (kF k 15 v63 h64 fun v66 h67 => (kT k 9 v66 v33 h67 fun r70 _ => (kC (stdyS true 11 x3 h25 h28) (kC (stdyS true 11 x3 h31 h34) (kC (stdyS true 11 x3 h43 r46.2) (kC (stdyS true 3 r6.1 h25 h28) (Tree.leaf (S.tup []) r70.2)))))))))))))))))))))))))) h3))
def sT140_2 (C : CT) (k : Nat) (x73 : S) (h : SH) : Tree := (kK (C 177 [x73] h) (fun v2 h3 => (Tree.leaf (S.tup []) h3)))
def sT140_3 (C : CT) (k : Nat) (x0 : S) (h : SH) : Tree := (kN k x0 h fun v4 h5 => (kF k 33 v4 h5 fun v7 h8 => (kL k v7 h8 fun v10 h11 => (sT140_2 C k v10 h11))))
def sT140_4 (C : CT) (k : Nat) (x0 x3 x58 x67 : S) (h : SH) : Tree := (kB k (gd x58 true uS (fun h1 => sEqz false .p x67 (S.p none) (SH.pc h1))) (fun v2 h3 => (kB k (fun h4 => sPick x58 v2 (S.b false) (SH.pc h4)) (fun v5 h6 => (kS v5 (fun h7 => (sT140_3 C k x0 h7)) (fun h8 => (kA k 11 x3 h8 fun v10 h11 => (kK (C 49 [v10] h11) (fun v13 h14 => (kX k v13 0 h14 fun v18 h19 => (sT140_1 C k x0 x3 v13 v18 h19)))))) h6)) h3)) h)
def sT140_5 (C : CT) (k : Nat) (x0 x3 x58 x62 x64 : S) (h : SH) : Tree := (kB k (gd x58 true uS (fun h1 => sFa 4 x3)) (fun v2 h3 => (kB k (gd x58 true uS (fun h4 => sLd1 v2 h4)) (fun v5 h6 => (kK (kG x58 true (fun h7 => C 176 [x62, x64, v5] h7) h6) (fun v8 h9 => (sT140_4 C k x0 x3 x58 v8 h9)))) h3)) h)
def sT140_6 (C : CT) (k : Nat) (x0 x3 x58 x61 : S) (h : SH) : Tree := (kB k (gd x58 true uS (fun h1 => sLd1 x61 h1)) (fun v2 h3 => (kB k (gd x58 true uS (fun h4 => sFa 3 x3)) (fun v5 h6 => (kB k (gd x58 true uS (fun h7 => sLd1 v5 h7)) (fun v8 h9 => (sT140_5 C k x0 x3 x58 v2 v8 h9)) h6)) h3)) h)
def sT140_7 (C : CT) (k : Nat) (x0 x3 x58 : S) (h : SH) : Tree := (kB k (gd x58 true uS (fun h1 => Res.ok x0)) (fun v2 h3 => (kB k (gd x58 true uS (fun h4 => sNilc v2)) (fun v5 h6 => (kB k (gd x58 true uS (fun h7 => sFa 29 v5)) (fun v8 h9 => (sT140_6 C k x0 x3 x58 v8 h9)) h6)) h3)) h)
def sT140_8 (C : CT) (k : Nat) (x0 x53 x54 : S) (h : SH) : Tree := (kB k (fun h1 => sZero z5 h1) (fun r3 _ => (kT k 11 r3.1 x53 r3.2 fun r6 _ => (kF k 0 r3.1 r6.2 fun v10 h11 => (kL k v10 h11 fun v13 h14 => (kI k .eql v13 (l64 1) h14 fun v16 h17 => (sT140_7 C k x0 r3.1 v16 h17)))))) h)
def sT140_9 (C : CT) (k : Nat) (x0 x51 : S) (h : SH) : Tree := (kK (C 175 [x51] h) (fun v2 h3 => (kX k v2 0 h3 fun v7 h8 => (kX k v2 1 h8 fun v10 h11 => (sT140_8 C k x0 v7 v10 h11)))))
def sT140_10 (C : CT) (k : Nat) (x114 x121 : S) (h : SH) : Tree := (kF k 60 x121 h fun v2 h3 => (kF k 7 v2 h3 fun v5 h6 => (kT k 8 v5 x114 h6 fun r9 _ => (Tree.leaf (S.tup []) r9.2))))
def sT140_11 (C : CT) (k : Nat) (x102 x103 x114 x119 : S) (h : SH) : Tree := (kF k 1 x119 h fun v2 h3 => (kT k 1 v2 x103 h3 fun r6 _ => (kN k x102 r6.2 fun v8 h9 => (sT140_10 C k x114 v8 h9))))
def sT140_12 (C : CT) (k : Nat) (x101 x102 x103 x114 x117 : S) (h : SH) : Tree := (kT k 1 x117 (l64 1) h fun r3 _ => (kN k x101 r3.2 fun v5 h6 => (kF k 60 v5 h6 fun v8 h9 => (sT140_11 C k x102 x103 x114 v8 h9))))
def sT140_13 (C : CT) (k : Nat) (x100 x101 x102 x103 x114 : S) (h : SH) : Tree := (kN k x100 h fun v2 h3 => (kF k 60 v2 h3 fun v5 h6 => (kF k 0 v5 h6 fun v8 h9 => (sT140_12 C k x101 x102 x103 x114 v8 h9))))
def sT140_14 (C : CT) (k : Nat) (x100 x101 x102 x103 x108 x111 : S) (h : SH) : Tree := (kF k 2 x111 h fun v2 h3 => (kL k v2 h3 fun v5 h6 => (kK (C 58 [x108, v5] h6) (fun v8 h9 => (sT140_13 C k x100 x101 x102 x103 v8 h9)))))
def sT140_15 (C : CT) (k : Nat) (x0 x100 x101 x102 x103 x107 : S) (h : SH) : Tree := (kA k 2 x107 h fun v2 h3 => (kN k x0 h3 fun v7 h8 => (kF k 60 v7 h8 fun v10 h11 => (sT140_14 C k x100 x101 x102 x103 v2 v10 h11))))
def sT140_16 (C : CT) (k : Nat) (x35 x42 : S) (h : SH) : Tree := (kF k 60 x42 h fun v2 h3 => (kF k 7 v2 h3 fun v5 h6 => (kT k 8 v5 x35 h6 fun r9 _ => (Tree.leaf (S.tup []) r9.2))))
def sT140_17 (C : CT) (k : Nat) (x18 x19 x35 x40 : S) (h : SH) : Tree := (kF k 1 x40 h fun v2 h3 => (kT k 1 v2 x19 h3 fun r6 _ => (kN k x18 r6.2 fun v8 h9 => (sT140_16 C k x35 v8 h9))))
def sT140_18 (C : CT) (k : Nat) (x17 x18 x19 x35 x38 : S) (h : SH) : Tree := (kT k 1 x38 (l64 1) h fun r3 _ => (kN k x17 r3.2 fun v5 h6 => (kF k 60 v5 h6 fun v8 h9 => (sT140_17 C k x18 x19 x35 v8 h9))))
def sT140_19 (C : CT) (k : Nat) (x16 x17 x18 x19 x35 : S) (h : SH) : Tree := (kN k x16 h fun v2 h3 => (kF k 60 v2 h3 fun v5 h6 => (kF k 0 v5 h6 fun v8 h9 => (sT140_18 C k x17 x18 x19 x35 v8 h9))))
def sT140_20 (C : CT) (k : Nat) (x16 x17 x18 x19 x27 x29 x32 : S) (h : SH) : Tree := (kB k (fun h1 => sIaa 1 4 x32 x29 (SH.pc h1)) (fun v2 h3 => (kL k v2 h3 fun v5 h6 => (kK (C 58 [x27, v5] h6) (fun v8 h9 => (sT140_19 C k x16 x17 x18 x19 v8 h9))))) h)
def sT140_21 (C : CT) (k : Nat) (x16 x17 x18 x19 x27 x28 x29 : S) (h : SH) : Tree := (kN k x28 h fun v2 h3 => (kF k 60 v2 h3 fun v5 h6 => (kF k 3 v5 h6 fun v8 h9 => (sT140_20 C k x16 x17 x18 x19 x27 x29 v8 h9))))
def sT140_22 (C : CT) (k : Nat) (x0 x7 x16 x17 x18 x19 x23 : S) (h : SH) : Tree := (kL k x23 h fun v2 h3 => (kB k (fun h6 => sIa 2 v2 x7 (SH.pc h6)) (fun v7 h8 => (kA k 2 v7 h8 fun v10 h11 => (sT140_21 C k x16 x17 x18 x19 v10 x0 x7 h11))) h3))
def sT140_23 (C : CT) (k : Nat) (x0 x2 : S) (h : SH) : Tree := (kN k x0 h fun v12 h13 => (kF k 19 v12 h13 fun v15 h16 => (kF k 2 v15 h16 fun v18 h19 => (sT140_15 C k x0 x0 x0 x0 x2 v18 h19))))
def sT140_24 (C : CT) (k : Nat) (x0 x2 : S) (h : SH) : Tree := (kI k .sub x2 (l64 2) h fun v4 h5 => (kN k x0 h5 fun v19 h20 => (kF k 19 v19 h20 fun v22 h23 => (kF k 1 v22 h23 fun v25 h26 => (sT140_22 C k x0 v4 x0 x0 x0 x2 v25 h26)))))
def sT140_25 (C : CT) (k : Nat) (x0 : S) (h : SH) : Tree := (kN k x0 h fun v4 h5 => (kF k 33 v4 h5 fun v7 h8 => (kL k v7 h8 fun v10 h11 => (sT140_9 C k x0 v10 h11))))
def sT140_26 (C : CT) (k : Nat) (x0 x2 x13 : S) (h : SH) : Tree := (kI k .eql x13 (l64 1) h fun v2 h3 => (kS v2 (fun h6 => (sT140_23 C k x0 x2 h6)) (fun h7 => (sT140_24 C k x0 x2 h7)) h3))
def sT140_27 (C : CT) (k : Nat) (x0 x11 : S) (h : SH) : Tree := (kK (C 174 [x11] h) (fun v2 h3 => (kI k .eql v2 (l64 0) h3 fun v9 h10 => (kS v9 (fun h13 => (sT140_25 C k x0 h13)) (fun h14 => (sT140_26 C k x0 v2 v2 h14)) h10))))
def sK140 (C : CT) (k : Nat) (x0 : S) (h : SH) : Tree := (kN k x0 h fun v4 h5 => (kF k 33 v4 h5 fun v7 h8 => (kL k v7 h8 fun v10 h11 => (sT140_27 C k x0 v10 h11))))
theorem sp140 (C : CT) (k : Nat) : ds C k c140 (sQ140 C k) = fun e h => (sK140 C k (e 0) h) := by kernel_rfl
def SF140 : SF := sf1 sK140
theorem so140 : SOK IP 140 SF140 := sok1 ir140 rfl (by kernel_rfl) (by kernel_rfl) fun C k x0 h => congrFun (congrFun (sp140 C k) _) h
def sQ141 (C : CT) (k : Nat) : QT := QrS k rs141
def sQ141_1 (C : CT) (k : Nat) : QT := (sQ141 C k)
def sT141_2 (C : CT) (k : Nat) (x0 x2 x8 : S) (h : SH) : Tree := (kA k 11 x8 h fun v4 h5 => (kK (C 180 [x0, v4, x2] h5) (fun v9 h10 => (Tree.leaf (S.tup []) h10))))
def sT141_3 (C : CT) (k : Nat) (x0 x2 x8 x82 x84 x87 : S) (h : SH) : Tree := (kB k (gd x82 true uS (fun h1 => sLd1 x87 h1)) (fun v2 h3 => (kB k (gd x82 true uS (fun h4 => sBin .eql x84 v2 (SH.pc h4))) (fun v5 h6 => (kB k (fun h7 => sPick x82 v5 (S.b false) (SH.pc h7)) (fun v8 h9 => (kS v8 (fun h10 => (sT141_2 C k x0 x2 x8 h10)) (fun h11 => (Tree.leaf (S.tup []) h11)) h9)) h6)) h3)) h)
def sT141_4 (C : CT) (k : Nat) (x0 x2 x8 x82 x84 : S) (h : SH) : Tree := (kB k (gd x82 true uS (fun h1 => Res.ok x0)) (fun v2 h3 => (kB k (gd x82 true uS (fun h4 => sNilc v2)) (fun v5 h6 => (kB k (gd x82 true uS (fun h7 => sFa 0 v5)) (fun v8 h9 => (sT141_3 C k x0 x2 x8 x82 x84 v8 h9)) h6)) h3)) h)
def sT141_5 (C : CT) (k : Nat) (x0 x2 x8 x78 x79 : S) (h : SH) : Tree := (kT k 11 x8 x78 h fun r3 _ => (kI k .eql x79 (l64 0) r3.2 fun v9 h10 => (kB k (gd v9 true uS (fun h13 => sFa 1 x8)) (fun v14 h15 => (kB k (gd v9 true uS (fun h16 => sLd1 v14 h16)) (fun v17 h18 => (sT141_4 C k x0 x2 x8 v9 v17 h18)) h15)) h10)))
def sT141_6 (C : CT) (k : Nat) (x0 x2 x70 : S) (h : SH) : Tree := (kX k x70 0 h fun v2 h3 => (kX k x70 1 h3 fun v5 h6 => (kB k (fun h7 => sZero z5 h7) (fun r9 _ => (sT141_5 C k x0 x2 r9.1 v2 v5 r9.2)) h6)))
def sT141_7 (C : CT) (k : Nat) (x0 x2 x74 : S) (h : SH) : Tree := (kA k 8 x74 h fun v2 h3 => (kK (C 62 [v2] h3) (fun v5 h6 => (kK (C 61 [v5] h6) (fun v8 h9 => (sT141_6 C k x0 x2 v8 h9))))))
def sK141_1 (C : CT) (k : Nat) (x0 x2 : S) (h : SH) : Tree := (kN k x0 h fun v4 h5 => (kF k 60 v4 h5 fun v7 h8 => (kF k 7 v7 h8 fun v10 h11 => (sT141_7 C k x0 x2 v10 h11))))
def sJ141_1 (C : CT) (k : Nat) : ES → SH → Tree := fun e h => (sK141_1 C k (e 0) (e 2) h)
theorem sp141_1 (C : CT) (k : Nat) : ds C k c141_1 (sQ141_1 C k) = (sJ141_1 C k) := by kernel_rfl
def sT141_8 (C : CT) (k : Nat) (x0 x2 x49 x50 : S) (h : SH) : Tree := (kF k 60 x50 h fun v2 h3 => (kF k 2 v2 h3 fun v5 h6 => (kT k 1 v5 x49 h6 fun r9 _ => (sK141_1 C k x0 x2 r9.2))))
def sT141_9 (C : CT) (k : Nat) (x0 x2 x44 x47 : S) (h : SH) : Tree := (kL k x47 h fun v2 h3 => (kI k .add v2 (S.i .u64 (.lit 1)) h3 fun v5 h6 => (kN k x44 h6 fun v8 h9 => (sT141_8 C k x0 x2 v5 v8 h9))))
def sT141_10 (C : CT) (k : Nat) (x0 x2 x65 x69 : S) (h : SH) : Tree := (kT k 1 x69 x65 h fun r3 _ => (sK141_1 C k x0 x2 r3.2))
def sT141_11 (C : CT) (k : Nat) (x0 x2 x59 x65 x66 : S) (h : SH) : Tree := (kF k 60 x66 h fun v2 h3 => (kF k 3 v2 h3 fun v5 h6 => (kB k (fun h7 => sIaa 1 4 v5 x59 (SH.pc h7)) (fun v8 h9 => (sT141_10 C k x0 x2 x65 v8 h9)) h6)))
def sT141_12 (C : CT) (k : Nat) (x0 x2 x53 x59 x63 : S) (h : SH) : Tree := (kL k x63 h fun v2 h3 => (kI k .add v2 (S.i .u64 (.lit 1)) h3 fun v5 h6 => (kN k x53 h6 fun v8 h9 => (sT141_11 C k x0 x2 x59 v5 v8 h9))))
def sT141_13 (C : CT) (k : Nat) (x0 x2 x53 x59 x60 : S) (h : SH) : Tree := (kF k 60 x60 h fun v2 h3 => (kF k 3 v2 h3 fun v5 h6 => (kB k (fun h7 => sIaa 1 4 v5 x59 (SH.pc h7)) (fun v8 h9 => (sT141_12 C k x0 x2 x53 x59 v8 h9)) h6)))
def sT141_14 (C : CT) (k : Nat) (x0 x2 x53 x57 : S) (h : SH) : Tree := (kL k x57 h fun v2 h3 => (kI k .sub v2 (l64 2) h3 fun v5 h6 => (kN k x53 h6 fun v8 h9 => (sT141_13 C k x0 x2 x53 v5 v8 h9))))
def sT141_15 (C : CT) (k : Nat) (x0 x2 : S) (h : SH) : Tree := (kN k x0 h fun v4 h5 => (kF k 60 v4 h5 fun v7 h8 => (kF k 2 v7 h8 fun v10 h11 => (sT141_9 C k x0 x2 x0 v10 h11))))
def sT141_16 (C : CT) (k : Nat) (x0 x2 : S) (h : SH) : Tree := (kN k x0 h fun v6 h7 => (kF k 60 v6 h7 fun v9 h10 => (kF k 1 v9 h10 fun v12 h13 => (sT141_14 C k x0 x2 x0 v12 h13))))
def sT141_17 (C : CT) (k : Nat) (x0 x2 x41 : S) (h : SH) : Tree := (kL k x41 h fun v2 h3 => (kI k .eql v2 (l64 1) h3 fun v5 h6 => (kS v5 (fun h7 => (sT141_15 C k x0 x2 h7)) (fun h8 => (sT141_16 C k x0 x2 h8)) h6)))
def sT141_18 (C : CT) (k : Nat) (x0 x2 x6 x35 : S) (h : SH) : Tree := (kT k 1 x35 (l64 0) h fun r3 _ => (kI k .neq x6 (l64 0) r3.2 fun v7 h8 => (kS v7 (fun h9 => (Tree.leaf (S.tup []) h9)) (fun h10 => (kN k x0 h10 fun v14 h15 => (kF k 60 v14 h15 fun v17 h18 => (kF k 1 v17 h18 fun v20 h21 => (sT141_17 C k x0 x2 v20 h21))))) h8)))
def sT141_19 (C : CT) (k : Nat) (x0 x2 x21 x28 : S) (h : SH) : Tree := (kX k x21 1 h fun v2 h3 => (kB k (fun h10 => sUn .not v2 (SH.pc h10)) (fun v11 h12 => (kS v11 (fun h13 => (Tree.leaf (S.tup []) h13)) (fun h14 => (kN k x0 h14 fun v18 h19 => (kF k 60 v18 h19 fun v21 h22 => (kF k 0 v21 h22 fun v24 h25 => (sT141_18 C k x0 x2 x28 v24 h25))))) h12)) h3))
def sT141_20 (C : CT) (k : Nat) (x0 x2 x25 : S) (h : SH) : Tree := (kA k 8 x25 h fun v2 h3 => (kK (C 60 [v2] h3) (fun v5 h6 => (kX k v5 0 h6 fun v10 h11 => (sT141_19 C k x0 x2 v5 v10 h11)))))
def sT141_21 (C : CT) (k : Nat) (x0 x2 x17 x18 : S) (h : SH) : Tree := (kF k 60 x18 h fun v2 h3 => (kF k 7 v2 h3 fun v5 h6 => (kT k 8 v5 x17 h6 fun r9 _ => (kN k x0 r9.2 fun v13 h14 => (kF k 60 v13 h14 fun v16 h17 => (kF k 7 v16 h17 fun v19 h20 => (sT141_20 C k x0 x2 v19 h20)))))))
def sT141_22 (C : CT) (k : Nat) (x0 x1 x2 x10 x14 : S) (h : SH) : Tree := (kA k 8 x14 h fun v2 h3 => (kK (C 59 [v2, x1] h3) (fun v7 h8 => (kN k x10 h8 fun v10 h11 => (sT141_21 C k x0 x2 v7 v10 h11)))))
def sK141 (C : CT) (k : Nat) (x0 x1 x2 : S) (h : SH) : Tree := (kN k x0 h fun v6 h7 => (kF k 60 v6 h7 fun v9 h10 => (kF k 7 v9 h10 fun v12 h13 => (sT141_22 C k x0 x1 x2 x0 v12 h13))))
theorem sp141 (C : CT) (k : Nat) : ds C k c141 (sQ141 C k) = fun e h => (sK141 C k (e 0) (e 1) (e 2) h) := by
  refine Eq.trans (sseq_eq (sseq_eq (sseq_eq (sseq_eq (sseq_eq (sseq_eq (sp141_1 C k) rfl) rfl) rfl) rfl) rfl) rfl) ?_
  kernel_rfl
def SF141 : SF := sf3 sK141
theorem so141 : SOK IP 141 SF141 := sok3 ir141 rfl (by kernel_rfl) (by kernel_rfl) fun C k x0 x1 x2 h => congrFun (congrFun (sp141 C k) _) h
def sQ144 (C : CT) (k : Nat) : QT := QrS k rs144
def sT144_1 (C : CT) (k : Nat) (x0 x5 x59 : S) (h : SH) : Tree := (kF k 0 x59 h fun v2 h3 => (kT k 1 v2 (l64 7) h3 fun r6 _ => (kN k x0 r6.2 fun v12 h13 => (kF k 28 v12 h13 fun v15 h16 => (kL k v15 h16 fun v18 h19 => (kN k x5 h19 fun v23 h24 => (kF k 0 v23 h24 fun v26 h27 => (kF k 3 v26 h27 fun v29 h30 => (kL k v29 h30 fun v32 h33 => (kK (C 145 [v18, v32] h33) (fun v35 h36 => (kN k x5 h36 fun v40 h41 => (kF k 0 v40 h41 fun v43 h44 => (kF k 4 v43 h44 fun v46 h47 => (kL k v46 h47 fun v49 h50 => (kN k x0 h50 fun v54 h55 => (kF k 28 v54 h55 fun v57 h58 => (kL k v57 h58 fun v60 h61 => (kK (C 190 [v60] h61) (fun v63 h64 => (kK (C 189 [v35, v49, v63] h64) (fun v66 h67 => (kN k x0 h67 fun v69 h70 => (kF k 35 v69 h70 fun v72 h73 => (kF k 20 v72 h73 fun v75 h76 => (kT k 5 v75 v66 h76 fun r79 _ => (kC (stdyS false 1 v46 h33 h36) (kC (stdyS false 1 v46 h61 h64) (kC (stdyS false 1 v57 h33 h36) (Tree.leaf (S.tup []) r79.2))))))))))))))))))))))))))))))
def sT144_2 (C : CT) (k : Nat) (x0 x5 x53 x54 x57 : S) (h : SH) : Tree := (kT k 1 x57 x54 h fun r3 _ => (kN k x53 r3.2 fun v5 h6 => (kF k 35 v5 h6 fun v8 h9 => (sT144_1 C k x0 x5 v8 h9))))
def sT144_3 (C : CT) (k : Nat) (x0 x1 x5 : S) (h : SH) : Tree := (kK (C 193 [x0, x5, x1] h) (fun v8 h9 => (Tree.leaf (S.tup []) h9)))
def sT144_4 (C : CT) (k : Nat) (x0 x1 : S) (h : SH) : Tree := (kK (C 188 [x0, (l64 1), (S.i .u32 (.lit 0)), x1] h) (fun v6 h7 => (Tree.leaf (S.tup []) h7)))
def sT144_5 (C : CT) (k : Nat) (x0 x1 x5 : S) (h : SH) : Tree := (kK (C 192 [x0, x5, x1] h) (fun v8 h9 => (Tree.leaf (S.tup []) h9)))
def sT144_6 (C : CT) (k : Nat) (x0 x1 x4 x5 : S) (h : SH) : Tree := (kF k 0 x4 h fun v2 h3 => (kL k v2 h3 fun v5 h6 => (kI k .eql v5 (l64 4) h6 fun v8 h9 => (kS v8 (fun h12 => (sT144_3 C k x0 x1 x5 h12)) (fun h13 => (sT144_4 C k x0 x1 h13)) h9))))
def sT144_7 (C : CT) (k : Nat) (x0 x1 x5 : S) (h : SH) : Tree := (kK (C 191 [x0, x5, x1] h) (fun v8 h9 => (Tree.leaf (S.tup []) h9)))
def sT144_8 (C : CT) (k : Nat) (x0 x1 x4 x5 : S) (h : SH) : Tree := (kF k 0 x4 h fun v2 h3 => (kL k v2 h3 fun v5 h6 => (kI k .eql v5 (l64 3) h6 fun v8 h9 => (kS v8 (fun h12 => (sT144_5 C k x0 x1 x5 h12)) (fun h13 => (sT144_6 C k x0 x1 x4 x5 h13)) h9))))
def sT144_9 (C : CT) (k : Nat) (x0 x5 : S) (h : SH) : Tree := (kN k x0 h fun v8 h9 => (kF k 35 v8 h9 fun v11 h12 => (kF k 10 v11 h12 fun v14 h15 => (sT144_2 C k x0 x5 x0 x5 v14 h15))))
def sT144_10 (C : CT) (k : Nat) (x0 x1 x4 x5 : S) (h : SH) : Tree := (kF k 0 x4 h fun v2 h3 => (kL k v2 h3 fun v5 h6 => (kI k .eql v5 (l64 2) h6 fun v8 h9 => (kS v8 (fun h12 => (sT144_7 C k x0 x1 x5 h12)) (fun h13 => (sT144_8 C k x0 x1 x4 x5 h13)) h9))))
def sT144_11 (C : CT) (k : Nat) (x0 x1 : S) (h : SH) : Tree := (kK (C 188 [x0, (l64 5), (S.i .u32 (.lit 0)), x1] h) (fun v6 h7 => (Tree.leaf (S.tup []) h7)))
def sT144_12 (C : CT) (k : Nat) (x0 x1 x4 x5 : S) (h : SH) : Tree := (kF k 0 x4 h fun v2 h3 => (kL k v2 h3 fun v5 h6 => (kI k .eql v5 (l64 1) h6 fun v8 h9 => (kS v8 (fun h12 => (sT144_9 C k x0 x5 h12)) (fun h13 => (sT144_10 C k x0 x1 x4 x5 h13)) h9))))
def sT144_13 (C : CT) (k : Nat) (x0 x1 x4 x5 x38 x41 : S) (h : SH) : Tree := (kB k (gd x38 true uS (fun h1 => sLd1 x41 h1)) (fun v2 h3 => (kB k (gd x38 true uS (fun h4 => sBin .neq v2 (l64 0) (SH.pc h4))) (fun v5 h6 => (kB k (fun h7 => sPick x38 v5 (S.b false) (SH.pc h7)) (fun v8 h9 => (kS v8 (fun h12 => (sT144_11 C k x0 x1 h12)) (fun h13 => (sT144_12 C k x0 x1 x4 x5 h13)) h9)) h6)) h3)) h)
def sT144_14 (C : CT) (k : Nat) (x0 x1 x4 x5 x38 : S) (h : SH) : Tree := (kB k (gd x38 true uS (fun h1 => Res.ok x5)) (fun v2 h3 => (kB k (gd x38 true uS (fun h4 => sNilc v2)) (fun v5 h6 => (kB k (gd x38 true uS (fun h7 => sFa 12 v5)) (fun v8 h9 => (sT144_13 C k x0 x1 x4 x5 x38 v8 h9)) h6)) h3)) h)
def sT144_15 (C : CT) (k : Nat) (x0 x1 : S) (h : SH) : Tree := (kK (C 188 [x0, (l64 6), (S.i .u32 (.lit 0)), x1] h) (fun v6 h7 => (Tree.leaf (S.tup []) h7)))
def sT144_16 (C : CT) (k : Nat) (x0 x1 x4 x5 : S) (h : SH) : Tree := (kF k 0 x4 h fun v2 h3 => (kL k v2 h3 fun v5 h6 => (kI k .eql v5 (l64 1) h6 fun v8 h9 => (sT144_14 C k x0 x1 x4 x5 v8 h9))))
def sT144_17 (C : CT) (k : Nat) (x0 x1 : S) (h : SH) : Tree := (kK (C 187 [x0, x1] h) (fun v6 h7 => (Tree.leaf (S.tup []) h7)))
def sT144_18 (C : CT) (k : Nat) (x0 x1 x4 x5 : S) (h : SH) : Tree := (kB k (fun h3 => sEqz false .p x5 (S.p none) (SH.pc h3)) (fun v4 h5 => (kS v4 (fun h8 => (sT144_15 C k x0 x1 h8)) (fun h9 => (sT144_16 C k x0 x1 x4 x5 h9)) h5)) h)
def sT144_19 (C : CT) (k : Nat) (x0 x1 x4 x14 : S) (h : SH) : Tree := (kF k 6 x4 h fun v2 h3 => (kL k v2 h3 fun v5 h6 => (kK (C 54 [x14, v5] h6) (fun v8 h9 => (kF k 0 x4 h9 fun v13 h14 => (kL k v13 h14 fun v16 h17 => (kI k .eql v16 (l64 0) h17 fun v19 h20 => (kS v19 (fun h23 => (sT144_17 C k x0 x1 h23)) (fun h24 => (sT144_18 C k x0 x1 x4 v8 h24)) h20))))))))
def sT144_20 (C : CT) (k : Nat) (x0 x1 x9 : S) (h : SH) : Tree := (kA k 7 x9 h fun v2 h3 => (kB k (fun h4 => sZero z8 h4) (fun r6 _ => (kT k 7 r6.1 v2 r6.2 fun r9 _ => (kN k x0 r9.2 fun v13 h14 => (kF k 29 v13 h14 fun v16 h17 => (kL k v16 h17 fun v19 h20 => (sT144_19 C k x0 x1 r6.1 v19 h20)))))) h3))
def sK144 (C : CT) (k : Nat) (x0 x1 : S) (h : SH) : Tree := (kN k x0 h fun v4 h5 => (kF k 35 v4 h5 fun v7 h8 => (kF k 1 v7 h8 fun v10 h11 => (sT144_20 C k x0 x1 v10 h11))))
theorem sp144 (C : CT) (k : Nat) : ds C k c144 (sQ144 C k) = fun e h => (sK144 C k (e 0) (e 1) h) := by kernel_rfl
def SF144 : SF := sf2 sK144
theorem so144 : SOK IP 144 SF144 := sok2 ir144 rfl (by kernel_rfl) (by kernel_rfl) fun C k x0 x1 h => congrFun (congrFun (sp144 C k) _) h
def sQ173 (C : CT) (k : Nat) : QT := QrS k rs173
def sQ173_1 (C : CT) (k : Nat) : QT := (sQ173 C k)
def sK173_1 (C : CT) (k : Nat) (h : SH) : Tree := (Tree.leaf (S.i .i64 (.lit (-1))) h)
def sJ173_1 (C : CT) (k : Nat) : ES → SH → Tree := fun e h => (sK173_1 C k h)
theorem sp173_1 (C : CT) (k : Nat) : ds C k c173_1 (sQ173_1 C k) = (sJ173_1 C k) := by kernel_rfl
def sR173_2 (C : CT) (k : Nat) : QT := (QbS 0 (QxS (sJ173_1 C k) (sQ173 C k)))
def sQ173_2 (C : CT) (k : Nat) (g173_2 : S → S → S → S → SH → Tree) : QT := QxS (fun e h => g173_2 (e 0) (e 1) (e 7) (e 8) h) (sR173_2 C k)
def sL173_2 (C : CT) (k : Nat) (g173_2 : S → S → S → S → SH → Tree) (x0 x1 x7 x8 : S) (h : SH) : Tree := (kI k .lss x8 x7 h fun v2 h3 => (kS v2 (fun h4 => (kB k (fun h16 => sIa 1 x0 x8 (SH.pc h16)) (fun v17 h18 => (kL k v17 h18 fun v20 h21 => (kI k .eql x1 v20 h21 fun v23 h24 => (kS v23 (fun h25 => (Tree.leaf x8 h25)) (fun h26 => (kI k .add x8 (l64 1) h26 fun v32 h33 => (g173_2 x0 x1 x7 v32 h33))) h24)))) h4)) (fun h5 => (sK173_1 C k h5)) h3))
theorem sp173_2 (C : CT) (k : Nat) (g173_2 : S → S → S → S → SH → Tree) : ds C k c173_2 (sQ173_2 C k g173_2) = fun e h => (sL173_2 C k g173_2 (e 0) (e 1) (e 7) (e 8) h) := by kernel_rfl
def sW173_2 (C : CT) (k : Nat) (x0 x1 x7 x8 : S) (h : SH) : Tree := kFix k (fun (g : S × S × S × S × Unit → SH → Tree) (x : S × S × S × S × Unit) h => sL173_2 C k (fun y0 y1 y7 y8 h => g (y0, y1, y7, y8, ()) h) x.1 x.2.1 x.2.2.1 x.2.2.2.1 h) (x0, x1, x7, x8, ()) h
theorem sn173_2 (C : CT) (k : Nat) : ∀ g : S × S × S × S × Unit → SH → Tree, ds C k c173_2 (QxS (fun e h => g ((fun e : ES => ((e 0, e 1, e 7, e 8, ()) : S × S × S × S × Unit)) e) h) (sR173_2 C k)) = fun e h => (fun (g : S × S × S × S × Unit → SH → Tree) (x : S × S × S × S × Unit) h => sL173_2 C k (fun y0 y1 y7 y8 h => g (y0, y1, y7, y8, ()) h) x.1 x.2.1 x.2.2.1 x.2.2.2.1 h) g ((fun e : ES => ((e 0, e 1, e 7, e 8, ()) : S × S × S × S × Unit)) e) h := fun g => sp173_2 C k (fun y0 y1 y7 y8 h => g (y0, y1, y7, y8, ()) h)
theorem sw173_2 (C : CT) (k : Nat) : ds C k (.loop c173_2) (sR173_2 C k) = fun e h => (sW173_2 C k (e 0) (e 1) (e 7) (e 8) h) := sloop_eq (fun e : ES => ((e 0, e 1, e 7, e 8, ()) : S × S × S × S × Unit)) (fun (g : S × S × S × S × Unit → SH → Tree) (x : S × S × S × S × Unit) h => sL173_2 C k (fun y0 y1 y7 y8 h => g (y0, y1, y7, y8, ()) h) x.1 x.2.1 x.2.2.1 x.2.2.2.1 h) (sn173_2 C k)
def sK173 (C : CT) (k : Nat) (x0 x1 : S) (h : SH) : Tree := (kB k (fun h5 => sLens x0) (fun v6 h7 => (sW173_2 C k x0 x1 v6 (l64 0) h7)) h)
theorem sp173 (C : CT) (k : Nat) : ds C k c173 (sQ173 C k) = fun e h => (sK173 C k (e 0) (e 1) h) := by
  refine Eq.trans (sseq_eq (sseq_eq (sp173_1 C k) (sseq_eq (sblock_eq (sw173_2 C k)) rfl)) rfl) ?_
  kernel_rfl
def SF173 : SF := sfI (sf2 sK173)
theorem so173 : SOK IP 173 SF173 := sokI (sok2 ir173 rfl (by kernel_rfl) (by kernel_rfl) fun C k x0 x1 h => congrFun (congrFun (sp173 C k) _) h) (by intro C k x0 x1 h; kernel_rfl)
def sQ174 (C : CT) (k : Nat) : QT := QrS k rs174
def sQ174_1 (C : CT) (k : Nat) : QT := (sQ174 C k)
def sT174_2 (C : CT) (k : Nat) (x3 x27 x28 : S) (h : SH) : Tree := (kF k 1 x28 h fun v2 h3 => (kT k 1 v2 x27 h3 fun r6 _ => (Tree.leaf x3 r6.2)))
def sT174_3 (C : CT) (k : Nat) (x3 x20 x22 x25 : S) (h : SH) : Tree := (kL k x25 h fun v2 h3 => (kI k .rem x22 v2 h3 fun v5 h6 => (kN k x20 h6 fun v8 h9 => (sT174_2 C k x3 v5 v8 h9))))
def sK174_1 (C : CT) (k : Nat) (x0 x3 : S) (h : SH) : Tree := (kI k .add x3 (l64 1) h fun v6 h7 => (kN k x0 h7 fun v11 h12 => (kF k 0 v11 h12 fun v14 h15 => (sT174_3 C k x3 x0 v6 v14 h15))))
def sJ174_1 (C : CT) (k : Nat) : ES → SH → Tree := fun e h => (sK174_1 C k (e 0) (e 3) h)
theorem sp174_1 (C : CT) (k : Nat) : ds C k c174_1 (sQ174_1 C k) = (sJ174_1 C k) := by kernel_rfl
def sT174_4 (C : CT) (k : Nat) (x0 x3 x12 x17 : S) (h : SH) : Tree := (kB k (gd x12 true uS (fun h1 => sBin .eql x17 (l64 0) (SH.pc h1))) (fun v2 h3 => (kB k (fun h4 => sPick x12 v2 (S.b false) (SH.pc h4)) (fun v5 h6 => (kS v5 (fun h7 => (sK174_1 C k x0 (l64 1) h7)) (fun h8 => (sK174_1 C k x0 x3 h8)) h6)) h3)) h)
def sT174_5 (C : CT) (k : Nat) (x0 x3 x12 x14 : S) (h : SH) : Tree := (kB k (gd x12 true uS (fun h1 => sFa 2 x14)) (fun v2 h3 => (kB k (gd x12 true uS (fun h4 => sLd1 v2 h4)) (fun v5 h6 => (kB k (gd x12 true uS (fun h7 => sLens v5)) (fun v8 h9 => (sT174_4 C k x0 x3 x12 v8 h9)) h6)) h3)) h)
def sK174 (C : CT) (k : Nat) (x0 : S) (h : SH) : Tree := (kB k (fun h5 => sEqz false .p x0 (S.p none) (SH.pc h5)) (fun v6 h7 => (kS v6 (fun h8 => (Tree.leaf (l64 1) h8)) (fun h9 => (kN k x0 h9 fun v15 h16 => (kF k 1 v15 h16 fun v18 h19 => (kL k v18 h19 fun v21 h22 => (kI k .eql v21 (l64 0) h22 fun v28 h29 => (kB k (gd v28 true uS (fun h32 => Res.ok x0)) (fun v33 h34 => (kB k (gd v28 true uS (fun h35 => sNilc v33)) (fun v36 h37 => (sT174_5 C k x0 v21 v28 v36 h37)) h34)) h29)))))) h7)) h)
theorem sp174 (C : CT) (k : Nat) : ds C k c174 (sQ174 C k) = fun e h => (sK174 C k (e 0) h) := by
  refine Eq.trans (sseq_eq (sseq_eq (sseq_eq (sseq_eq (sp174_1 C k) rfl) rfl) rfl) rfl) ?_
  kernel_rfl
def SF174 : SF := sf1 sK174
theorem so174 : SOK IP 174 SF174 := sok1 ir174 rfl (by kernel_rfl) (by kernel_rfl) fun C k x0 h => congrFun (congrFun (sp174 C k) _) h
def sQ188 (C : CT) (k : Nat) : QT := QrS k rs188
def sQ188_1 (C : CT) (k : Nat) : QT := (sQ188 C k)
def sT188_2 (C : CT) (k : Nat) (x43 x45 : S) (h : SH) : Tree := (kT k 25 x45 x43 h fun r3 _ => (Tree.leaf (S.tup []) r3.2))
def sK188_1 (C : CT) (k : Nat) (x0 x8 : S) (h : SH) : Tree := (kA k 15 x8 h fun v4 h5 => (kK (C 91 [x0, v4] h5) (fun v7 h8 => (kB k (fun h11 => sBld z6 []) (fun v12 h13 => (kN k x0 h13 fun v15 h16 => (kF k 35 v15 h16 fun v18 h19 => (sT188_2 C k v12 v18 h19)))) h8))))
def sJ188_1 (C : CT) (k : Nat) : ES → SH → Tree := fun e h => (sK188_1 C k (e 0) (e 8) h)
theorem sp188_1 (C : CT) (k : Nat) : ds C k c188_1 (sQ188_1 C k) = (sJ188_1 C k) := by kernel_rfl
def sT188_3 (C : CT) (k : Nat) (x0 x8 x37 : S) (h : SH) : Tree := (kF k 11 x8 h fun v2 h3 => (kT k 1 v2 x37 h3 fun r6 _ => (sK188_1 C k x0 x8 r6.2)))
def sT188_4 (C : CT) (k : Nat) (x0 x8 x9 : S) (h : SH) : Tree := (kN k x9 h fun v4 h5 => (kF k 12 v4 h5 fun v7 h8 => (kL k v7 h8 fun v10 h11 => (sT188_3 C k x0 x8 v10 h11))))
def sT188_5 (C : CT) (k : Nat) (x0 x8 x28 : S) (h : SH) : Tree := (kF k 2 x8 h fun v2 h3 => (kL k v2 h3 fun v5 h6 => (kK (C 54 [x28, v5] h6) (fun v8 h9 => (kB k (fun h14 => sEqz true .p v8 (S.p none) (SH.pc h14)) (fun v15 h16 => (kS v15 (fun h17 => (sT188_4 C k x0 x8 v8 h17)) (fun h18 => (sK188_1 C k x0 x8 h18)) h16)) h9)))))
def sT188_6 (C : CT) (k : Nat) (x0 x15 x20 x21 x22 x23 : S) (h : SH) : Tree := (kB k (fun h1 => sBld z11 [(0, 1, (l64 1)), (2, 1, x15), (3, 7, x20), (10, 1, x21), (13, 1, x22), (14, 1, x23)]) (fun v2 h3 => (kB k (fun h4 => sZero z11 h4) (fun r6 _ => (kT k 15 r6.1 v2 r6.2 fun r9 _ => (kN k x0 r9.2 fun v13 h14 => (kF k 29 v13 h14 fun v16 h17 => (kL k v16 h17 fun v19 h20 => (sT188_5 C k x0 r6.1 v19 h20)))))) h3)) h)
def sT188_7 (C : CT) (k : Nat) (x0 x1 x2 x3 x15 x17 : S) (h : SH) : Tree := (kF k 35 x17 h fun v2 h3 => (kF k 1 v2 h3 fun v5 h6 => (kA k 7 v5 h6 fun v8 h9 => (sT188_6 C k x0 x15 v8 x1 x2 x3 h9))))
def sT188_8 (C : CT) (k : Nat) (x0 x1 x2 x3 x13 : S) (h : SH) : Tree := (kF k 6 x13 h fun v2 h3 => (kL k v2 h3 fun v5 h6 => (kN k x0 h6 fun v10 h11 => (sT188_7 C k x0 x1 x2 x3 v5 v10 h11))))
def sK188 (C : CT) (k : Nat) (x0 x1 x2 x3 : S) (h : SH) : Tree := (kN k x0 h fun v4 h5 => (kF k 35 v4 h5 fun v7 h8 => (kF k 1 v7 h8 fun v10 h11 => (sT188_8 C k x0 x1 x2 x3 v10 h11))))
theorem sp188 (C : CT) (k : Nat) : ds C k c188 (sQ188 C k) = fun e h => (sK188 C k (e 0) (e 1) (e 2) (e 3) h) := by
  refine Eq.trans (sseq_eq (sseq_eq (sp188_1 C k) rfl) rfl) ?_
  kernel_rfl
def SF188 : SF := sf4 sK188
theorem so188 : SOK IP 188 SF188 := sok4 ir188 rfl (by kernel_rfl) (by kernel_rfl) fun C k x0 x1 x2 x3 h => congrFun (congrFun (sp188 C k) _) h
def stree : Tr SF := (.n (.n (.n (.n (.n (.n (.n .l (some SF63) .l) (some SF31) .l) none (.n (.n .l (some SF79) .l) none (.n .l (some SF111) .l))) none (.n (.n (.n (.n .l (some SF135) .l) (some SF71) .l) (some SF39) .l) (some SF23) (.n (.n .l (some SF87) .l) none (.n .l (some SF119) .l)))) none (.n (.n (.n (.n (.n .l (some SF131) .l) (some SF67) .l) (some SF35) (.n .l (some SF99) .l)) none (.n (.n .l (some SF83) .l) none (.n .l (some SF115) .l))) none (.n (.n (.n (.n .l (some SF139) .l) (some SF75) .l) (some SF43) (.n .l (some SF107) .l)) (some SF27) (.n (.n .l (some SF91) .l) (some SF59) .l)))) none (.n (.n (.n (.n (.n (.n .l (some SF129) .l) (some SF65) .l) (some SF33) .l) none (.n (.n .l (some SF81) .l) none (.n .l (some SF113) .l))) none (.n (.n (.n .l (some SF73) .l) (some SF41) .l) (some SF25) (.n (.n .l (some SF89) .l) none .l))) (some SF5) (.n (.n (.n (.n (.n .l (some SF133) .l) (some SF69) .l) (some SF37) .l) none (.n (.n .l (some SF85) .l) none (.n .l (some SF117) .l))) none (.n (.n (.n (.n .l (some SF141) .l) (some SF77) .l) (some SF45) (.n (.n .l (some SF173) .l) (some SF109) .l)) (some SF29) (.n (.n .l (some SF93) .l) none .l))))) none (.n (.n (.n (.n (.n (.n (.n .l (some SF128) .l) (some SF64) .l) (some SF32) (.n .l (some SF96) .l)) none (.n (.n (.n .l (some SF144) .l) (some SF80) .l) (some SF48) (.n .l (some SF112) .l))) none (.n (.n (.n (.n .l (some SF136) .l) (some SF72) .l) none .l) (some SF24) (.n (.n .l (some SF88) .l) none (.n .l (some SF120) .l)))) none (.n (.n (.n (.n (.n .l (some SF132) .l) (some SF68) .l) (some SF36) .l) none (.n (.n .l (some SF84) .l) none (.n .l (some SF116) .l))) none (.n (.n (.n (.n .l (some SF140) .l) (some SF76) .l) (some SF44) (.n .l (some SF108) .l)) (some SF28) (.n .l (some SF60) (.n (.n .l (some SF188) .l) none .l))))) none (.n (.n (.n (.n (.n (.n .l (some SF130) .l) (some SF66) .l) (some SF34) .l) none (.n (.n .l (some SF82) .l) none (.n .l (some SF114) .l))) none (.n (.n .l (some SF42) .l) (some SF26) (.n (.n .l (some SF90) .l) (some SF58) .l))) none (.n (.n (.n (.n (.n .l (some SF134) .l) (some SF70) .l) (some SF38) (.n .l (some SF102) .l)) none (.n (.n .l (some SF86) .l) (some SF54) .l)) none (.n (.n (.n .l (some SF78) .l) (some SF46) (.n (.n .l (some SF174) .l) (some SF110) .l)) (some SF30) .l)))))
def SP (f : Nat) : Option SF := stree.get f
theorem sall : stree.All (SOK IP) 1 0 :=
  ⟨nm, ⟨nm, ⟨nm, ⟨nm, ⟨nm, ⟨sm so31, ⟨sm so63, trivial, trivial⟩, trivial⟩, ⟨nm, ⟨sm so79, trivial, trivial⟩, ⟨sm so111, trivial, trivial⟩⟩⟩, ⟨sm so23, ⟨sm so39, ⟨sm so71, ⟨sm so135, trivial, trivial⟩, trivial⟩, trivial⟩, ⟨nm, ⟨sm so87, trivial, trivial⟩, ⟨sm so119, trivial, trivial⟩⟩⟩⟩, ⟨nm, ⟨nm, ⟨sm so35, ⟨sm so67, ⟨sm so131, trivial, trivial⟩, trivial⟩, ⟨sm so99, trivial, trivial⟩⟩, ⟨nm, ⟨sm so83, trivial, trivial⟩, ⟨sm so115, trivial, trivial⟩⟩⟩, ⟨sm so27, ⟨sm so43, ⟨sm so75, ⟨sm so139, trivial, trivial⟩, trivial⟩, ⟨sm so107, trivial, trivial⟩⟩, ⟨sm so59, ⟨sm so91, trivial, trivial⟩, trivial⟩⟩⟩⟩, ⟨sm so5, ⟨nm, ⟨nm, ⟨sm so33, ⟨sm so65, ⟨sm so129, trivial, trivial⟩, trivial⟩, trivial⟩, ⟨nm, ⟨sm so81, trivial, trivial⟩, ⟨sm so113, trivial, trivial⟩⟩⟩, ⟨sm so25, ⟨sm so41, ⟨sm so73, trivial, trivial⟩, trivial⟩, ⟨nm, ⟨sm so89, trivial, trivial⟩, trivial⟩⟩⟩, ⟨nm, ⟨nm, ⟨sm so37, ⟨sm so69, ⟨sm so133, trivial, trivial⟩, trivial⟩, trivial⟩, ⟨nm, ⟨sm so85, trivial, trivial⟩, ⟨sm so117, trivial, trivial⟩⟩⟩, ⟨sm so29, ⟨sm so45, ⟨sm so77, ⟨sm so141, trivial, trivial⟩, trivial⟩, ⟨sm so109, ⟨sm so173, trivial, trivial⟩, trivial⟩⟩, ⟨nm, ⟨sm so93, trivial, trivial⟩, trivial⟩⟩⟩⟩⟩, ⟨nm, ⟨nm, ⟨nm, ⟨nm, ⟨sm so32, ⟨sm so64, ⟨sm so128, trivial, trivial⟩, trivial⟩, ⟨sm so96, trivial, trivial⟩⟩, ⟨sm so48, ⟨sm so80, ⟨sm so144, trivial, trivial⟩, trivial⟩, ⟨sm so112, trivial, trivial⟩⟩⟩, ⟨sm so24, ⟨nm, ⟨sm so72, ⟨sm so136, trivial, trivial⟩, trivial⟩, trivial⟩, ⟨nm, ⟨sm so88, trivial, trivial⟩, ⟨sm so120, trivial, trivial⟩⟩⟩⟩, ⟨nm, ⟨nm, ⟨sm so36, ⟨sm so68, ⟨sm so132, trivial, trivial⟩, trivial⟩, trivial⟩, ⟨nm, ⟨sm so84, trivial, trivial⟩, ⟨sm so116, trivial, trivial⟩⟩⟩, ⟨sm so28, ⟨sm so44, ⟨sm so76, ⟨sm so140, trivial, trivial⟩, trivial⟩, ⟨sm so108, trivial, trivial⟩⟩, ⟨sm so60, trivial, ⟨nm, ⟨sm so188, trivial, trivial⟩, trivial⟩⟩⟩⟩⟩, ⟨nm, ⟨nm, ⟨nm, ⟨sm so34, ⟨sm so66, ⟨sm so130, trivial, trivial⟩, trivial⟩, trivial⟩, ⟨nm, ⟨sm so82, trivial, trivial⟩, ⟨sm so114, trivial, trivial⟩⟩⟩, ⟨sm so26, ⟨sm so42, trivial, trivial⟩, ⟨sm so58, ⟨sm so90, trivial, trivial⟩, trivial⟩⟩⟩, ⟨nm, ⟨nm, ⟨sm so38, ⟨sm so70, ⟨sm so134, trivial, trivial⟩, trivial⟩, ⟨sm so102, trivial, trivial⟩⟩, ⟨sm so54, ⟨sm so86, trivial, trivial⟩, trivial⟩⟩, ⟨sm so30, ⟨sm so46, ⟨sm so78, trivial, trivial⟩, ⟨sm so110, ⟨sm so174, trivial, trivial⟩, trivial⟩⟩, trivial⟩⟩⟩⟩⟩
theorem sruns (σ : Nat → Int) (k : Nat) : COk σ (srun SP k) (ev IP k) := srun_ev (sok_of_tree sall) k
end
end Go.Proofs.YthackiallbgeaaaGreatDoor.IrFabricNone
