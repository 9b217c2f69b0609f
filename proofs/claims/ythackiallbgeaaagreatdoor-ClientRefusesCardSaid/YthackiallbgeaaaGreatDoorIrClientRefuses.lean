/-
  The abstract machine's text of the functions that ClientRefuses reaches, and: it is the loaded program's. Then the functions without temporaries.
-/
import Derived.Test.YthackiallbgeaaaGreatDoorProg
import Derived.Test.YthackiallbgeaaaGreatDoorMxT
import Derived.Test.YthackiallbgeaaaGreatDoorMxU
import Derived.Test.YthackiallbgeaaaGreatDoorMxV
import Derived.Test.YthackiallbgeaaaGreatDoorMxX
import Derived.Test.YthackiallbgeaaaGreatDoorSxG
import Derived.Test.YthackiallbgeaaaGreatDoorIrClientRefusesP0
namespace Go.Proofs.YthackiallbgeaaaGreatDoor.IrClientRefuses
open Go Mx Sx
noncomputable section
set_option maxRecDepth 100000
set_option linter.unusedVariables false
def sQ87 (C : CT) (k : Nat) : QT := QrS k rs87
def sT87_1 (C : CT) (k : Nat) (x7 x9 : S) (h : SH) : Tree := (kB k (fun h1 => sMin x9 [(l64 64)] (SH.pc h1)) (fun v2 h3 => (kB k (fun h4 => sBld z3 [(0, 1, x7), (1, 1, v2)]) (fun v5 h6 => (kB k (fun h7 => sBox v5 h7) (fun r9 _ => (Tree.leaf r9.1 r9.2)) h6)) h3)) h)
def sK87 (C : CT) (k : Nat) (x0 x1 : S) (h : SH) : Tree := (kB k (fun h5 => sMax x0 [(l64 0)] (SH.pc h5)) (fun v6 h7 => (kB k (fun h8 => sMin v6 [(l64 64)] (SH.pc h8)) (fun v9 h10 => (kB k (fun h13 => sMax x1 [(l64 0)] (SH.pc h13)) (fun v14 h15 => (sT87_1 C k v9 v14 h15)) h10)) h7)) h)
theorem sp87 (C : CT) (k : Nat) : ds C k c87 (sQ87 C k) = fun e h => (sK87 C k (e 0) (e 1) h) := by kernel_rfl
def SF87 : SF := sf2 sK87
theorem so87 : SOK IP 87 SF87 := sok2 ir87 rfl (by kernel_rfl) (by kernel_rfl) fun C k x0 x1 h => congrFun (congrFun (sp87 C k) _) h
def sQ88 (C : CT) (k : Nat) : QT := QrS k rs88
def sT88_1 (C : CT) (k : Nat) (x15 x17 : S) (h : SH) : Tree := (kB k (fun h1 => sBld z3 [(0, 6, x15), (6, 1, x17)]) (fun v2 h3 => (kB k (fun h4 => sBox v2 h4) (fun r6 _ => (Tree.leaf r6.1 r6.2)) h3)) h)
def sK88 (C : CT) (k : Nat) (x0 : S) (h : SH) : Tree := (kB k (fun h1 => sBox x0 h1) (fun r3 _ => (kF k 1 r3.1 r3.2 fun v7 h8 => (kL k v7 h8 fun v10 h11 => (kK (C 135 [v10] h11) (fun v13 h14 => (kF k 2 r3.1 h14 fun v16 h17 => (kL k v16 h17 fun v19 h20 => (kK (C 135 [v19] h20) (fun v22 h23 => (kF k 3 r3.1 h23 fun v25 h26 => (kL k v25 h26 fun v28 h29 => (kK (C 135 [v28] h29) (fun v31 h32 => (kF k 1 r3.1 h32 fun v34 h35 => (kT k 1 v34 v13 h35 fun r38 _ => (kF k 2 r3.1 r38.2 fun v40 h41 => (kT k 1 v40 v22 h41 fun r44 _ => (kF k 3 r3.1 r44.2 fun v46 h47 => (kT k 1 v46 v31 h47 fun r50 _ => (kC (stdyS false 1 v16 h11 h14) (kC (stdyS false 1 v25 h11 h14) (kC (stdyS false 1 v25 h20 h23) (kA k 6 r3.1 r50.2 fun v52 h53 => (kF k 3 r3.1 h53 fun v55 h56 => (kL k v55 h56 fun v58 h59 => (sT88_1 C k v52 v58 h59)))))))))))))))))))))))))) h)
theorem sp88 (C : CT) (k : Nat) : ds C k c88 (sQ88 C k) = fun e h => (sK88 C k (e 0) h) := by kernel_rfl
def SF88 : SF := sf1 sK88
theorem so88 : SOK IP 88 SF88 := sok1 ir88 rfl (by kernel_rfl) (by kernel_rfl) fun C k x0 h => congrFun (congrFun (sp88 C k) _) h
def sQ89 (C : CT) (k : Nat) : QT := QrS k rs89
def sT89_1 (C : CT) (k : Nat) (x6 : S) (h : SH) : Tree := (kB k (fun h1 => sBld [(.i .i64 0), (.i .i64 0), .nsl] [(0, 1, x6)]) (fun v2 h3 => (kB k (fun h4 => sBox v2 h4) (fun r6 _ => (Tree.leaf r6.1 r6.2)) h3)) h)
def sK89 (C : CT) (k : Nat) (x0 : S) (h : SH) : Tree := (kB k (fun h5 => sMax x0 [(l64 1)] (SH.pc h5)) (fun v6 h7 => (kB k (fun h8 => sMin v6 [(l64 4)] (SH.pc h8)) (fun v9 h10 => (kI k .add (l64 2) v9 h10 fun v12 h13 => (sT89_1 C k v12 h13))) h7)) h)
theorem sp89 (C : CT) (k : Nat) : ds C k c89 (sQ89 C k) = fun e h => (sK89 C k (e 0) h) := by kernel_rfl
def SF89 : SF := sf1 sK89
theorem so89 : SOK IP 89 SF89 := sok1 ir89 rfl (by kernel_rfl) (by kernel_rfl) fun C k x0 h => congrFun (congrFun (sp89 C k) _) h
def sQ90 (C : CT) (k : Nat) : QT := QrS k rs90
def sT90_1 (C : CT) (k : Nat) (x1 x18 : S) (h : SH) : Tree := (kB k (fun h1 => sMax x18 [(l64 1)] (SH.pc h1)) (fun v2 h3 => (kF k 4 x1 h3 fun v5 h6 => (kT k 1 v5 v2 h6 fun r9 _ => (kA k 6 x1 r9.2 fun v11 h12 => (kF k 0 x1 h12 fun v14 h15 => (kL k v14 h15 fun v17 h18 => (kF k 1 x1 h18 fun v20 h21 => (kL k v20 h21 fun v23 h24 => (kK (C 136 [v17, v23] h24) (fun v26 h27 => (kB k (fun h28 => sBld z5 [(0, 6, v11), (6, 1, v26)]) (fun v29 h30 => (kB k (fun h31 => sBox v29 h31) (fun r33 _ => (kC (stdyS true 6 x1 h24 h27) (Tree.leaf r33.1 r33.2))) h30)) h27))))))))))) h)
def sT90_2 (C : CT) (k : Nat) (x1 x12 x15 : S) (h : SH) : Tree := (kT k 1 x15 x12 h fun r3 _ => (kF k 4 x1 r3.2 fun v5 h6 => (kL k v5 h6 fun v8 h9 => (kK (C 128 [v8] h9) (fun v11 h12 => (sT90_1 C k x1 v11 h12))))))
def sT90_3 (C : CT) (k : Nat) (x1 x9 x12 : S) (h : SH) : Tree := (kF k 3 x1 h fun v2 h3 => (kT k 1 v2 x9 h3 fun r6 _ => (kF k 5 x1 r6.2 fun v8 h9 => (sT90_2 C k x1 x12 v8 h9))))
def sT90_4 (C : CT) (k : Nat) (x1 x5 x9 x11 : S) (h : SH) : Tree := (kB k (fun h1 => sMax x11 [(l64 1)] (SH.pc h1)) (fun v2 h3 => (kF k 2 x1 h3 fun v5 h6 => (kT k 1 v5 x5 h6 fun r9 _ => (sT90_3 C k x1 x9 v2 r9.2)))) h)
def sT90_5 (C : CT) (k : Nat) (x1 x5 x8 : S) (h : SH) : Tree := (kB k (fun h1 => sMin x8 [(l64 100)] (SH.pc h1)) (fun v2 h3 => (kF k 5 x1 h3 fun v5 h6 => (kL k v5 h6 fun v8 h9 => (sT90_4 C k x1 x5 v2 v8 h9)))) h)
def sT90_6 (C : CT) (k : Nat) (x1 x5 : S) (h : SH) : Tree := (kF k 3 x1 h fun v2 h3 => (kL k v2 h3 fun v5 h6 => (kB k (fun h7 => sMax v5 [(l64 1)] (SH.pc h7)) (fun v8 h9 => (sT90_5 C k x1 x5 v8 h9)) h6)))
def sK90 (C : CT) (k : Nat) (x0 : S) (h : SH) : Tree := (kB k (fun h1 => sBox x0 h1) (fun r3 _ => (kF k 2 r3.1 r3.2 fun v7 h8 => (kL k v7 h8 fun v10 h11 => (kB k (fun h12 => sMax v10 [(l64 1)] (SH.pc h12)) (fun v13 h14 => (sT90_6 C k r3.1 v13 h14)) h11)))) h)
theorem sp90 (C : CT) (k : Nat) : ds C k c90 (sQ90 C k) = fun e h => (sK90 C k (e 0) h) := by kernel_rfl
def SF90 : SF := sf1 sK90
theorem so90 : SOK IP 90 SF90 := sok1 ir90 rfl (by kernel_rfl) (by kernel_rfl) fun C k x0 h => congrFun (congrFun (sp90 C k) _) h
def sQ91 (C : CT) (k : Nat) : QT := QrS k rs91
def sT91_1 (C : CT) (k : Nat) (x9 x16 : S) (h : SH) : Tree := (kN k x9 h fun v2 h3 => (kF k 103 v2 h3 fun v5 h6 => (kT k 1 v5 x16 h6 fun r9 _ => (Tree.leaf (S.tup []) r9.2))))
def sT91_2 (C : CT) (k : Nat) (x3 x9 x13 : S) (h : SH) : Tree := (kA k 15 x3 h fun v2 h3 => (kB k (fun h4 => sNewSl 1 z16 [(0, 15, v2)] h4) (fun r6 _ => (kB k (fun h7 => sApp 15 112 x13 r6.1 h7) (fun r9 _ => (sT91_1 C k x9 r9.1 r9.2)) r6.2)) h3))
def sT91_3 (C : CT) (k : Nat) (x0 x3 x7 : S) (h : SH) : Tree := (kF k 1 x3 h fun v2 h3 => (kT k 1 v2 x7 h3 fun r6 _ => (kN k x0 r6.2 fun v12 h13 => (kF k 103 v12 h13 fun v15 h16 => (kL k v15 h16 fun v18 h19 => (sT91_2 C k x3 x0 v18 h19))))))
def sK91 (C : CT) (k : Nat) (x0 x1 : S) (h : SH) : Tree := (kB k (fun h1 => sBox x1 h1) (fun r3 _ => (kN k x0 r3.2 fun v7 h8 => (kF k 0 v7 h8 fun v10 h11 => (kL k v10 h11 fun v13 h14 => (sT91_3 C k x0 r3.1 v13 h14))))) h)
theorem sp91 (C : CT) (k : Nat) : ds C k c91 (sQ91 C k) = fun e h => (sK91 C k (e 0) (e 1) h) := by kernel_rfl
def SF91 : SF := sf2 sK91
theorem so91 : SOK IP 91 SF91 := sok2 ir91 rfl (by kernel_rfl) (by kernel_rfl) fun C k x0 x1 h => congrFun (congrFun (sp91 C k) _) h
def sQ92 (C : CT) (k : Nat) : QT := QrS k rs92
def sT92_1 (C : CT) (k : Nat) (x8 : S) (h : SH) : Tree := (kK (C 137 [x8] h) (fun v2 h3 => (Tree.leaf v2 h3)))
def sK92 (C : CT) (k : Nat) (x0 : S) (h : SH) : Tree := (kB k (fun h5 => sEqz false .p x0 (S.p none) (SH.pc h5)) (fun v6 h7 => (kS v6 (fun h8 => (Tree.leaf S.nsl h8)) (fun h9 => (kN k x0 h9 fun v15 h16 => (kF k 1 v15 h16 fun v18 h19 => (kL k v18 h19 fun v21 h22 => (sT92_1 C k v21 h22))))) h7)) h)
theorem sp92 (C : CT) (k : Nat) : ds C k c92 (sQ92 C k) = fun e h => (sK92 C k (e 0) h) := by kernel_rfl
def SF92 : SF := sf1 sK92
theorem so92 : SOK IP 92 SF92 := sok1 ir92 rfl (by kernel_rfl) (by kernel_rfl) fun C k x0 h => congrFun (congrFun (sp92 C k) _) h
def sQ93 (C : CT) (k : Nat) : QT := QrS k rs93
def sK93 (C : CT) (k : Nat) (x0 : S) (h : SH) : Tree := (kB k (fun h5 => sEqz false .p x0 (S.p none) (SH.pc h5)) (fun v6 h7 => (kS v6 (fun h8 => (Tree.leaf S.nsl h8)) (fun h9 => (kN k x0 h9 fun v15 h16 => (kF k 103 v15 h16 fun v18 h19 => (kL k v18 h19 fun v21 h22 => (kN k x0 h22 fun v28 h29 => (kF k 103 v28 h29 fun v31 h32 => (kT k 1 v31 S.nsl h32 fun r35 _ => (Tree.leaf v21 r35.2)))))))) h7)) h)
theorem sp93 (C : CT) (k : Nat) : ds C k c93 (sQ93 C k) = fun e h => (sK93 C k (e 0) h) := by kernel_rfl
def SF93 : SF := sf1 sK93
theorem so93 : SOK IP 93 SF93 := sok1 ir93 rfl (by kernel_rfl) (by kernel_rfl) fun C k x0 h => congrFun (congrFun (sp93 C k) _) h
def sQ94 (C : CT) (k : Nat) : QT := QrS k rs94
def sT94_1 (C : CT) (k : Nat) (x36 x39 : S) (h : SH) : Tree := (kB k (fun h1 => sPick x36 x39 (S.b false) (SH.pc h1)) (fun v2 h3 => (Tree.leaf v2 h3)) h)
def sT94_2 (C : CT) (k : Nat) (x1 x36 : S) (h : SH) : Tree := (kB k (gd x36 true uS (fun h1 => sFa 9 x1)) (fun v2 h3 => (kB k (gd x36 true uS (fun h4 => sLd1 v2 h4)) (fun v5 h6 => (kK (kG x36 true (fun h7 => C 138 [v5, (l64 65535)] h7) h6) (fun v8 h9 => (sT94_1 C k x36 v8 h9)))) h3)) h)
def sT94_3 (C : CT) (k : Nat) (x1 x31 x32 : S) (h : SH) : Tree := (kB k (gd x31 true uS (fun h1 => sLd1 x32 h1)) (fun v2 h3 => (kK (kG x31 true (fun h4 => C 138 [v2, (l64 15)] h4) h3) (fun v5 h6 => (kB k (fun h7 => sPick x31 v5 (S.b false) (SH.pc h7)) (fun v8 h9 => (sT94_2 C k x1 v8 h9)) h6)))) h)
def sT94_4 (C : CT) (k : Nat) (x1 x26 x28 : S) (h : SH) : Tree := (kK (kG x26 true (fun h1 => C 138 [x28, (l64 16777215)] h1) h) (fun v2 h3 => (kB k (fun h4 => sPick x26 v2 (S.b false) (SH.pc h4)) (fun v5 h6 => (kB k (gd v5 true uS (fun h9 => sFa 6 x1)) (fun v10 h11 => (sT94_3 C k x1 v5 v10 h11)) h6)) h3)))
def sT94_5 (C : CT) (k : Nat) (x1 x21 x24 : S) (h : SH) : Tree := (kB k (fun h1 => sPick x21 x24 (S.b false) (SH.pc h1)) (fun v2 h3 => (kB k (gd v2 true uS (fun h6 => sFa 4 x1)) (fun v7 h8 => (kB k (gd v2 true uS (fun h9 => sLd1 v7 h9)) (fun v10 h11 => (sT94_4 C k x1 v2 v10 h11)) h8)) h3)) h)
def sT94_6 (C : CT) (k : Nat) (x1 x21 : S) (h : SH) : Tree := (kB k (gd x21 true uS (fun h1 => sFa 3 x1)) (fun v2 h3 => (kB k (gd x21 true uS (fun h4 => sLd1 v2 h4)) (fun v5 h6 => (kK (kG x21 true (fun h7 => C 138 [v5, (l64 15)] h7) h6) (fun v8 h9 => (sT94_5 C k x1 x21 v8 h9)))) h3)) h)
def sT94_7 (C : CT) (k : Nat) (x1 x16 x17 : S) (h : SH) : Tree := (kB k (gd x16 true uS (fun h1 => sLd1 x17 h1)) (fun v2 h3 => (kK (kG x16 true (fun h4 => C 138 [v2, (l64 3)] h4) h3) (fun v5 h6 => (kB k (fun h7 => sPick x16 v5 (S.b false) (SH.pc h7)) (fun v8 h9 => (sT94_6 C k x1 v8 h9)) h6)))) h)
def sT94_8 (C : CT) (k : Nat) (x1 x11 x13 : S) (h : SH) : Tree := (kK (kG x11 true (fun h1 => C 138 [x13, (l64 3)] h1) h) (fun v2 h3 => (kB k (fun h4 => sPick x11 v2 (S.b false) (SH.pc h4)) (fun v5 h6 => (kB k (gd v5 true uS (fun h9 => sFa 2 x1)) (fun v10 h11 => (sT94_7 C k x1 v5 v10 h11)) h6)) h3)))
def sT94_9 (C : CT) (k : Nat) (x1 x6 x9 : S) (h : SH) : Tree := (kB k (fun h1 => sPick x6 x9 (S.b false) (SH.pc h1)) (fun v2 h3 => (kB k (gd v2 true uS (fun h6 => sFa 1 x1)) (fun v7 h8 => (kB k (gd v2 true uS (fun h9 => sLd1 v7 h9)) (fun v10 h11 => (sT94_8 C k x1 v2 v10 h11)) h8)) h3)) h)
def sT94_10 (C : CT) (k : Nat) (x1 x6 : S) (h : SH) : Tree := (kB k (gd x6 true uS (fun h1 => sFa 0 x1)) (fun v2 h3 => (kB k (gd x6 true uS (fun h4 => sLd1 v2 h4)) (fun v5 h6 => (kB k (gd x6 true uS (fun h7 => sBin .leq v5 (l64 10) (SH.pc h7))) (fun v8 h9 => (sT94_9 C k x1 x6 v8 h9)) h6)) h3)) h)
def sK94 (C : CT) (k : Nat) (x0 : S) (h : SH) : Tree := (kB k (fun h1 => sBox x0 h1) (fun r3 _ => (kF k 0 r3.1 r3.2 fun v7 h8 => (kL k v7 h8 fun v10 h11 => (kI k .geq v10 (l64 1) h11 fun v13 h14 => (sT94_10 C k r3.1 v13 h14))))) h)
theorem sp94 (C : CT) (k : Nat) : ds C k c94 (sQ94 C k) = fun e h => (sK94 C k (e 0) h) := by kernel_rfl
def SF94 : SF := sf1 sK94
theorem so94 : SOK IP 94 SF94 := sok1 ir94 rfl (by kernel_rfl) (by kernel_rfl) fun C k x0 h => congrFun (congrFun (sp94 C k) _) h
def sQ95 (C : CT) (k : Nat) : QT := QrS k rs95
def sK95 (C : CT) (k : Nat) (x0 : S) (h : SH) : Tree := (kS x0 (fun h5 => (Tree.leaf (S.i .u64 (.lit 1)) h5)) (fun h6 => (Tree.leaf (S.i .u64 (.lit 0)) h6)) h)
theorem sp95 (C : CT) (k : Nat) : ds C k c95 (sQ95 C k) = fun e h => (sK95 C k (e 0) h) := by kernel_rfl
def SF95 : SF := sf1 sK95
theorem so95 : SOK IP 95 SF95 := sok1 ir95 rfl (by kernel_rfl) (by kernel_rfl) fun C k x0 h => congrFun (congrFun (sp95 C k) _) h
def sQ96 (C : CT) (k : Nat) : QT := QrS k rs96
def sT96_1 (C : CT) (k : Nat) (x12 x13 : S) (h : SH) : Tree := (kB k (fun h1 => sIa 1 x12 x13 (SH.pc h1)) (fun v2 h3 => (kL k v2 h3 fun v5 h6 => (Tree.leaf v5 h6))) h)
def sK96 (C : CT) (k : Nat) (x0 x1 : S) (h : SH) : Tree := (kK (C 83 [x0, x1] h) (fun v8 h9 => (kB k (fun h10 => sUn .not v8 (SH.pc h10)) (fun v11 h12 => (kS v11 (fun h13 => (Tree.leaf (S.i .u64 (.lit 0)) h13)) (fun h14 => (kN k x0 h14 fun v20 h21 => (kF k 0 v20 h21 fun v23 h24 => (kL k v23 h24 fun v26 h27 => (sT96_1 C k v26 x1 h27))))) h12)) h9)))
theorem sp96 (C : CT) (k : Nat) : ds C k c96 (sQ96 C k) = fun e h => (sK96 C k (e 0) (e 1) h) := by kernel_rfl
def SF96 : SF := sf2 sK96
theorem so96 : SOK IP 96 SF96 := sok2 ir96 rfl (by kernel_rfl) (by kernel_rfl) fun C k x0 x1 h => congrFun (congrFun (sp96 C k) _) h
def sQ97 (C : CT) (k : Nat) : QT := QrS k rs97
def sK97 (C : CT) (k : Nat) (x0 : S) (h : SH) : Tree := (kB k (fun h1 => sBox x0 h1) (fun r3 _ => (kA k 2 r3.1 r3.2 fun v7 h8 => (kK (C 79 [v7] h8) (fun v10 h11 => (kB k (fun h12 => sUn .not v10 (SH.pc h12)) (fun v13 h14 => (kS v13 (fun h15 => (Tree.leaf (S.i .i64 (.lit (-1))) h15)) (fun h16 => (kF k 0 r3.1 h16 fun v20 h21 => (kL k v20 h21 fun v23 h24 => (Tree.leaf v23 h24)))) h14)) h11))))) h)
theorem sp97 (C : CT) (k : Nat) : ds C k c97 (sQ97 C k) = fun e h => (sK97 C k (e 0) h) := by kernel_rfl
def SF97 : SF := sf1 sK97
theorem so97 : SOK IP 97 SF97 := sok1 ir97 rfl (by kernel_rfl) (by kernel_rfl) fun C k x0 h => congrFun (congrFun (sp97 C k) _) h
def sQ98 (C : CT) (k : Nat) : QT := QrS k rs98
def sQ98_1 (C : CT) (k : Nat) : QT := (sQ98 C k)
def sK98_1 (C : CT) (k : Nat) (x2 x4 : S) (h : SH) : Tree := (kA k 9 x2 h fun v2 h3 => (kT k 9 x4 v2 h3 fun r6 _ => (kA k 9 x4 r6.2 fun v8 h9 => (Tree.leaf v8 h9))))
def sJ98_1 (C : CT) (k : Nat) : ES → SH → Tree := fun e h => (sK98_1 C k (e 2) (e 4) h)
theorem sp98_1 (C : CT) (k : Nat) : ds C k c98_1 (sQ98_1 C k) = (sJ98_1 C k) := by kernel_rfl
def sT98_2 (C : CT) (k : Nat) (x2 x4 x27 : S) (h : SH) : Tree := (kB k (gd x27 false uS (fun h1 => sFa 7 x2)) (fun v2 h3 => (kB k (gd x27 false uS (fun h4 => sLd1 v2 h4)) (fun v5 h6 => (kB k (fun h7 => sPick x27 (S.b true) v5 (SH.pc h7)) (fun v8 h9 => (kS v8 (fun h12 => (kF k 8 x2 h12 fun v15 h16 => (kT k 1 v15 (S.b true) h16 fun r19 _ => (sK98_1 C k x2 x4 r19.2)))) (fun h13 => (kF k 6 x2 h13 fun v21 h22 => (kT k 1 v21 (l64 0) h22 fun r25 _ => (sK98_1 C k x2 x4 r25.2)))) h9)) h6)) h3)) h)
def sT98_3 (C : CT) (k : Nat) (x1 x2 x4 : S) (h : SH) : Tree := (kF k 5 x2 h fun v4 h5 => (kL k v4 h5 fun v7 h8 => (kI k .lss x1 v7 h8 fun v10 h11 => (sT98_2 C k x2 x4 v10 h11))))
def sT98_4 (C : CT) (k : Nat) (x1 x2 x4 : S) (h : SH) : Tree := (kF k 5 x2 h fun v4 h5 => (kL k v4 h5 fun v7 h8 => (kI k .eql x1 v7 h8 fun v10 h11 => (kS v10 (fun h14 => (kF k 6 x2 h14 fun v17 h18 => (kT k 1 v17 (l64 2) h18 fun r21 _ => (sK98_1 C k x2 x4 r21.2)))) (fun h15 => (sT98_3 C k x1 x2 x4 h15)) h11))))
def sT98_5 (C : CT) (k : Nat) (x1 x2 x4 x11 : S) (h : SH) : Tree := (kB k (gd x11 true uS (fun h1 => sFa 7 x2)) (fun v2 h3 => (kB k (gd x11 true uS (fun h4 => sLd1 v2 h4)) (fun v5 h6 => (kB k (fun h7 => sPick x11 v5 (S.b false) (SH.pc h7)) (fun v8 h9 => (kS v8 (fun h12 => (kF k 6 x2 h12 fun v15 h16 => (kT k 1 v15 (l64 3) h16 fun r19 _ => (sK98_1 C k x2 x4 r19.2)))) (fun h13 => (sT98_4 C k x1 x2 x4 h13)) h9)) h6)) h3)) h)
def sK98 (C : CT) (k : Nat) (x0 x1 : S) (h : SH) : Tree := (kB k (fun h1 => sBox x0 h1) (fun r3 _ => (kB k (fun h4 => sZero z17 h4) (fun r6 _ => (kF k 5 r3.1 r6.2 fun v10 h11 => (kL k v10 h11 fun v13 h14 => (kI k .eql x1 v13 h14 fun v16 h17 => (sT98_5 C k x1 r3.1 r6.1 v16 h17))))) r3.2)) h)
theorem sp98 (C : CT) (k : Nat) : ds C k c98 (sQ98 C k) = fun e h => (sK98 C k (e 0) (e 1) h) := by
  refine Eq.trans (sseq_eq (sseq_eq (sp98_1 C k) rfl) rfl) ?_
  kernel_rfl
def SF98 : SF := sf2 sK98
theorem so98 : SOK IP 98 SF98 := sok2 ir98 rfl (by kernel_rfl) (by kernel_rfl) fun C k x0 x1 h => congrFun (congrFun (sp98 C k) _) h
def sQ99 (C : CT) (k : Nat) : QT := QrS k rs99
def sK99 (C : CT) (k : Nat) (x0 x1 : S) (h : SH) : Tree := (kB k (fun h1 => sBox x0 h1) (fun r3 _ => (kA k 2 r3.1 r3.2 fun v7 h8 => (kK (C 79 [v7] h8) (fun v10 h11 => (kB k (fun h12 => sUn .not v10 (SH.pc h12)) (fun v13 h14 => (kS v13 (fun h15 => (Tree.leaf (S.i .i64 (.lit (-1))) h15)) (fun h16 => (kA k 2 r3.1 h16 fun v20 h21 => (kK (C 82 [v20, x1] h21) (fun v25 h26 => (Tree.leaf v25 h26))))) h14)) h11))))) h)
theorem sp99 (C : CT) (k : Nat) : ds C k c99 (sQ99 C k) = fun e h => (sK99 C k (e 0) (e 1) h) := by kernel_rfl
def SF99 : SF := sf2 sK99
theorem so99 : SOK IP 99 SF99 := sok2 ir99 rfl (by kernel_rfl) (by kernel_rfl) fun C k x0 x1 h => congrFun (congrFun (sp99 C k) _) h
def sQ100 (C : CT) (k : Nat) : QT := QrS k rs100
def sT100_1 (C : CT) (k : Nat) (x27 x28 x29 : S) (h : SH) : Tree := (kB k (fun h1 => sIa 1 x27 x28 (SH.pc h1)) (fun v2 h3 => (kT k 1 v2 x29 h3 fun r6 _ => (Tree.leaf (S.b true) r6.2))) h)
def sT100_2 (C : CT) (k : Nat) (x0 x1 x2 x3 x13 x20 : S) (h : SH) : Tree := (kB k (gd x13 false uS (fun h1 => Res.ok x2)) (fun v2 h3 => (kB k (gd x13 false uS (fun h4 => sBin .neq x20 v2 (SH.pc h4))) (fun v5 h6 => (kB k (fun h7 => sPick x13 (S.b true) v5 (SH.pc h7)) (fun v8 h9 => (kS v8 (fun h10 => (Tree.leaf (S.b false) h10)) (fun h11 => (kN k x0 h11 fun v17 h18 => (kF k 0 v17 h18 fun v20 h21 => (kL k v20 h21 fun v23 h24 => (sT100_1 C k v23 x1 x3 h24))))) h9)) h6)) h3)) h)
def sT100_3 (C : CT) (k : Nat) (x0 x1 x2 x3 x13 x17 : S) (h : SH) : Tree := (kB k (gd x13 false uS (fun h1 => Res.ok x1)) (fun v2 h3 => (kB k (gd x13 false uS (fun h4 => sIa 1 x17 v2 (SH.pc h4))) (fun v5 h6 => (kB k (gd x13 false uS (fun h7 => sLd1 v5 h7)) (fun v8 h9 => (sT100_2 C k x0 x1 x2 x3 x13 v8 h9)) h6)) h3)) h)
def sT100_4 (C : CT) (k : Nat) (x0 x1 x2 x3 x13 x14 : S) (h : SH) : Tree := (kB k (gd x13 false uS (fun h1 => sNilc x14)) (fun v2 h3 => (kB k (gd x13 false uS (fun h4 => sFa 0 v2)) (fun v5 h6 => (kB k (gd x13 false uS (fun h7 => sLd1 v5 h7)) (fun v8 h9 => (sT100_3 C k x0 x1 x2 x3 x13 v8 h9)) h6)) h3)) h)
def sK100 (C : CT) (k : Nat) (x0 x1 x2 x3 : S) (h : SH) : Tree := (kK (C 83 [x0, x1] h) (fun v8 h9 => (kB k (fun h10 => sUn .not v8 (SH.pc h10)) (fun v11 h12 => (kB k (gd v11 false uS (fun h15 => Res.ok x0)) (fun v16 h17 => (sT100_4 C k x0 x1 x2 x3 v11 v16 h17)) h12)) h9)))
theorem sp100 (C : CT) (k : Nat) : ds C k c100 (sQ100 C k) = fun e h => (sK100 C k (e 0) (e 1) (e 2) (e 3) h) := by kernel_rfl
def SF100 : SF := sf4 sK100
theorem so100 : SOK IP 100 SF100 := sok4 ir100 rfl (by kernel_rfl) (by kernel_rfl) fun C k x0 x1 x2 x3 h => congrFun (congrFun (sp100 C k) _) h
def sQ101 (C : CT) (k : Nat) : QT := QrS k rs101
def sT101_1 (C : CT) (k : Nat) (x21 x22 : S) (h : SH) : Tree := (kI k .add x21 x22 h fun v2 h3 => (Tree.leaf v2 h3))
def sT101_2 (C : CT) (k : Nat) (x1 x2 x3 x14 : S) (h : SH) : Tree := (kB k (gd x14 false uS (fun h1 => Res.ok x2)) (fun v2 h3 => (kB k (gd x14 false uS (fun h4 => sBin .geq v2 (l64 3) (SH.pc h4))) (fun v5 h6 => (kB k (fun h7 => sPick x14 (S.b true) v5 (SH.pc h7)) (fun v8 h9 => (kS v8 (fun h10 => (Tree.leaf (S.i .i64 (.lit (-1))) h10)) (fun h11 => (kA k 2 x3 h11 fun v15 h16 => (kK (C 82 [v15, x1] h16) (fun v20 h21 => (kI k .add v20 (l64 1) h21 fun v23 h24 => (sT101_1 C k v23 x2 h24)))))) h9)) h6)) h3)) h)
def sT101_3 (C : CT) (k : Nat) (x1 x2 x3 x10 : S) (h : SH) : Tree := (kB k (gd x10 false uS (fun h1 => Res.ok x2)) (fun v2 h3 => (kB k (gd x10 false uS (fun h4 => sBin .lss v2 (l64 0) (SH.pc h4))) (fun v5 h6 => (kB k (fun h7 => sPick x10 (S.b true) v5 (SH.pc h7)) (fun v8 h9 => (sT101_2 C k x1 x2 x3 v8 h9)) h6)) h3)) h)
def sK101 (C : CT) (k : Nat) (x0 x1 x2 : S) (h : SH) : Tree := (kB k (fun h1 => sBox x0 h1) (fun r3 _ => (kA k 2 r3.1 r3.2 fun v7 h8 => (kK (C 79 [v7] h8) (fun v10 h11 => (kB k (fun h12 => sUn .not v10 (SH.pc h12)) (fun v13 h14 => (sT101_3 C k x1 x2 r3.1 v13 h14)) h11))))) h)
theorem sp101 (C : CT) (k : Nat) : ds C k c101 (sQ101 C k) = fun e h => (sK101 C k (e 0) (e 1) (e 2) h) := by kernel_rfl
def SF101 : SF := sf3 sK101
theorem so101 : SOK IP 101 SF101 := sok3 ir101 rfl (by kernel_rfl) (by kernel_rfl) fun C k x0 x1 x2 h => congrFun (congrFun (sp101 C k) _) h
def sQ102 (C : CT) (k : Nat) : QT := QrS k rs102
def sQ102_1 (C : CT) (k : Nat) : QT := (sQ102 C k)
def sK102_1 (C : CT) (k : Nat) (h : SH) : Tree := (Tree.leaf (S.i .i64 (.lit (-1))) h)
def sJ102_1 (C : CT) (k : Nat) : ES → SH → Tree := fun e h => (sK102_1 C k h)
theorem sp102_1 (C : CT) (k : Nat) : ds C k c102_1 (sQ102_1 C k) = (sJ102_1 C k) := by kernel_rfl
def sR102_2 (C : CT) (k : Nat) : QT := (QbS 0 (QxS (sJ102_1 C k) (sQ102 C k)))
def sQ102_2 (C : CT) (k : Nat) (g102_2 : S → S → S → S → SH → Tree) : QT := QxS (fun e h => g102_2 (e 0) (e 1) (e 7) (e 8) h) (sR102_2 C k)
def sL102_2 (C : CT) (k : Nat) (g102_2 : S → S → S → S → SH → Tree) (x0 x1 x7 x8 : S) (h : SH) : Tree := (kI k .lss x8 x7 h fun v2 h3 => (kS v2 (fun h4 => (kB k (fun h16 => sIa 1 x0 x8 (SH.pc h16)) (fun v17 h18 => (kL k v17 h18 fun v20 h21 => (kK (kV C x1 [v20] h21) (fun v23 h24 => (kS v23 (fun h25 => (Tree.leaf x8 h25)) (fun h26 => (kI k .add x8 (l64 1) h26 fun v32 h33 => (g102_2 x0 x1 x7 v32 h33))) h24))))) h4)) (fun h5 => (sK102_1 C k h5)) h3))
theorem sp102_2 (C : CT) (k : Nat) (g102_2 : S → S → S → S → SH → Tree) : ds C k c102_2 (sQ102_2 C k g102_2) = fun e h => (sL102_2 C k g102_2 (e 0) (e 1) (e 7) (e 8) h) := by kernel_rfl
def sW102_2 (C : CT) (k : Nat) (x0 x1 x7 x8 : S) (h : SH) : Tree := kFix k (fun (g : S × S × S × S × Unit → SH → Tree) (x : S × S × S × S × Unit) h => sL102_2 C k (fun y0 y1 y7 y8 h => g (y0, y1, y7, y8, ()) h) x.1 x.2.1 x.2.2.1 x.2.2.2.1 h) (x0, x1, x7, x8, ()) h
theorem sn102_2 (C : CT) (k : Nat) : ∀ g : S × S × S × S × Unit → SH → Tree, ds C k c102_2 (QxS (fun e h => g ((fun e : ES => ((e 0, e 1, e 7, e 8, ()) : S × S × S × S × Unit)) e) h) (sR102_2 C k)) = fun e h => (fun (g : S × S × S × S × Unit → SH → Tree) (x : S × S × S × S × Unit) h => sL102_2 C k (fun y0 y1 y7 y8 h => g (y0, y1, y7, y8, ()) h) x.1 x.2.1 x.2.2.1 x.2.2.2.1 h) g ((fun e : ES => ((e 0, e 1, e 7, e 8, ()) : S × S × S × S × Unit)) e) h := fun g => sp102_2 C k (fun y0 y1 y7 y8 h => g (y0, y1, y7, y8, ()) h)
theorem sw102_2 (C : CT) (k : Nat) : ds C k (.loop c102_2) (sR102_2 C k) = fun e h => (sW102_2 C k (e 0) (e 1) (e 7) (e 8) h) := sloop_eq (fun e : ES => ((e 0, e 1, e 7, e 8, ()) : S × S × S × S × Unit)) (fun (g : S × S × S × S × Unit → SH → Tree) (x : S × S × S × S × Unit) h => sL102_2 C k (fun y0 y1 y7 y8 h => g (y0, y1, y7, y8, ()) h) x.1 x.2.1 x.2.2.1 x.2.2.2.1 h) (sn102_2 C k)
def sK102 (C : CT) (k : Nat) (x0 x1 : S) (h : SH) : Tree := (kB k (fun h5 => sLens x0) (fun v6 h7 => (sW102_2 C k x0 x1 v6 (l64 0) h7)) h)
theorem sp102 (C : CT) (k : Nat) : ds C k c102 (sQ102 C k) = fun e h => (sK102 C k (e 0) (e 1) h) := by
  refine Eq.trans (sseq_eq (sseq_eq (sp102_1 C k) (sseq_eq (sblock_eq (sw102_2 C k)) rfl)) rfl) ?_
  kernel_rfl
def SF102 : SF := sf2 sK102
theorem so102 : SOK IP 102 SF102 := sok2 ir102 rfl (by kernel_rfl) (by kernel_rfl) fun C k x0 x1 h => congrFun (congrFun (sp102 C k) _) h
def sQ103 (C : CT) (k : Nat) : QT := QrS k rs103
def sT103_1 (C : CT) (k : Nat) (x1 x7 : S) (h : SH) : Tree := (kL k x7 h fun v2 h3 => (kL k x1 h3 fun v5 h6 => (kI k .eql v2 v5 h6 fun v8 h9 => (Tree.leaf v8 h9))))
def sK103 (C : CT) (k : Nat) (x0 x1 : S) (h : SH) : Tree := (kN k x0 h fun v6 h7 => (kF k 0 v6 h7 fun v9 h10 => (kF k 5 v9 h10 fun v12 h13 => (sT103_1 C k x1 v12 h13))))
theorem sp103 (C : CT) (k : Nat) : ds C k c103 (sQ103 C k) = fun e h => (sK103 C k (e 0) (e 1) h) := by kernel_rfl
def SF103 : SF := sf2 sK103
theorem so103 : SOK IP 103 SF103 := sok2 ir103 rfl (by kernel_rfl) (by kernel_rfl) fun C k x0 x1 h => congrFun (congrFun (sp103 C k) _) h
def sQ104 (C : CT) (k : Nat) : QT := QrS k rs104
def sQ104_1 (C : CT) (k : Nat) : QT := (sQ104 C k)
def sK104_1 (C : CT) (k : Nat) (h : SH) : Tree := (Tree.leaf (S.i .i64 (.lit (-1))) h)
def sJ104_1 (C : CT) (k : Nat) : ES → SH → Tree := fun e h => (sK104_1 C k h)
theorem sp104_1 (C : CT) (k : Nat) : ds C k c104_1 (sQ104_1 C k) = (sJ104_1 C k) := by kernel_rfl
def sR104_2 (C : CT) (k : Nat) : QT := (QbS 0 (QxS (sJ104_1 C k) (sQ104 C k)))
def sQ104_2 (C : CT) (k : Nat) (g104_2 : S → S → S → S → SH → Tree) : QT := QxS (fun e h => g104_2 (e 0) (e 1) (e 7) (e 8) h) (sR104_2 C k)
def sL104_2 (C : CT) (k : Nat) (g104_2 : S → S → S → S → SH → Tree) (x0 x1 x7 x8 : S) (h : SH) : Tree := (kI k .lss x8 x7 h fun v2 h3 => (kS v2 (fun h4 => (kB k (fun h16 => sIa 1 x0 x8 (SH.pc h16)) (fun v17 h18 => (kL k v17 h18 fun v20 h21 => (kK (kV C x1 [v20] h21) (fun v23 h24 => (kS v23 (fun h25 => (Tree.leaf x8 h25)) (fun h26 => (kI k .add x8 (l64 1) h26 fun v32 h33 => (g104_2 x0 x1 x7 v32 h33))) h24))))) h4)) (fun h5 => (sK104_1 C k h5)) h3))
theorem sp104_2 (C : CT) (k : Nat) (g104_2 : S → S → S → S → SH → Tree) : ds C k c104_2 (sQ104_2 C k g104_2) = fun e h => (sL104_2 C k g104_2 (e 0) (e 1) (e 7) (e 8) h) := by kernel_rfl
def sW104_2 (C : CT) (k : Nat) (x0 x1 x7 x8 : S) (h : SH) : Tree := kFix k (fun (g : S × S × S × S × Unit → SH → Tree) (x : S × S × S × S × Unit) h => sL104_2 C k (fun y0 y1 y7 y8 h => g (y0, y1, y7, y8, ()) h) x.1 x.2.1 x.2.2.1 x.2.2.2.1 h) (x0, x1, x7, x8, ()) h
theorem sn104_2 (C : CT) (k : Nat) : ∀ g : S × S × S × S × Unit → SH → Tree, ds C k c104_2 (QxS (fun e h => g ((fun e : ES => ((e 0, e 1, e 7, e 8, ()) : S × S × S × S × Unit)) e) h) (sR104_2 C k)) = fun e h => (fun (g : S × S × S × S × Unit → SH → Tree) (x : S × S × S × S × Unit) h => sL104_2 C k (fun y0 y1 y7 y8 h => g (y0, y1, y7, y8, ()) h) x.1 x.2.1 x.2.2.1 x.2.2.2.1 h) g ((fun e : ES => ((e 0, e 1, e 7, e 8, ()) : S × S × S × S × Unit)) e) h := fun g => sp104_2 C k (fun y0 y1 y7 y8 h => g (y0, y1, y7, y8, ()) h)
theorem sw104_2 (C : CT) (k : Nat) : ds C k (.loop c104_2) (sR104_2 C k) = fun e h => (sW104_2 C k (e 0) (e 1) (e 7) (e 8) h) := sloop_eq (fun e : ES => ((e 0, e 1, e 7, e 8, ()) : S × S × S × S × Unit)) (fun (g : S × S × S × S × Unit → SH → Tree) (x : S × S × S × S × Unit) h => sL104_2 C k (fun y0 y1 y7 y8 h => g (y0, y1, y7, y8, ()) h) x.1 x.2.1 x.2.2.1 x.2.2.2.1 h) (sn104_2 C k)
def sK104 (C : CT) (k : Nat) (x0 x1 : S) (h : SH) : Tree := (kB k (fun h5 => sLens x0) (fun v6 h7 => (sW104_2 C k x0 x1 v6 (l64 0) h7)) h)
theorem sp104 (C : CT) (k : Nat) : ds C k c104 (sQ104 C k) = fun e h => (sK104 C k (e 0) (e 1) h) := by
  refine Eq.trans (sseq_eq (sseq_eq (sp104_1 C k) (sseq_eq (sblock_eq (sw104_2 C k)) rfl)) rfl) ?_
  kernel_rfl
def SF104 : SF := sf2 sK104
theorem so104 : SOK IP 104 SF104 := sok2 ir104 rfl (by kernel_rfl) (by kernel_rfl) fun C k x0 x1 h => congrFun (congrFun (sp104 C k) _) h
def sQ105 (C : CT) (k : Nat) : QT := QrS k rs105
def sK105 (C : CT) (k : Nat) (x0 x1 : S) (h : SH) : Tree := (kB k (fun h1 => sBox x0 h1) (fun r3 _ => (kA k 2 r3.1 r3.2 fun v7 h8 => (kK (C 130 [v7] h8) (fun v10 h11 => (kB k (fun h12 => sUn .not v10 (SH.pc h12)) (fun v13 h14 => (kS v13 (fun h15 => (Tree.leaf (S.i .u64 (.lit 0)) h15)) (fun h16 => (kF k 0 r3.1 h16 fun v22 h23 => (kL k v22 h23 fun v25 h26 => (kI k .shr x1 v25 h26 fun v28 h29 => (kA k 2 r3.1 h29 fun v31 h32 => (kK (C 132 [v31] h32) (fun v34 h35 => (kI k .and v28 v34 h35 fun v37 h38 => (kC (stdyS false 1 v22 h32 h35) (Tree.leaf v37 h38)))))))))) h14)) h11))))) h)
theorem sp105 (C : CT) (k : Nat) : ds C k c105 (sQ105 C k) = fun e h => (sK105 C k (e 0) (e 1) h) := by kernel_rfl
def SF105 : SF := sf2 sK105
theorem so105 : SOK IP 105 SF105 := sok2 ir105 rfl (by kernel_rfl) (by kernel_rfl) fun C k x0 x1 h => congrFun (congrFun (sp105 C k) _) h
def sQ106 (C : CT) (k : Nat) : QT := QrS k rs106
def sQ106_1 (C : CT) (k : Nat) : QT := (sQ106 C k)
def sK106_1 (C : CT) (k : Nat) (x0 : S) (h : SH) : Tree := (Tree.leaf x0 h)
def sJ106_1 (C : CT) (k : Nat) : ES → SH → Tree := fun e h => (sK106_1 C k (e 0) h)
theorem sp106_1 (C : CT) (k : Nat) : ds C k c106_1 (sQ106_1 C k) = (sJ106_1 C k) := by kernel_rfl
def sR106_2 (C : CT) (k : Nat) : QT := (QbS 0 (QxS (sJ106_1 C k) (sQ106 C k)))
def sQ106_2 (C : CT) (k : Nat) (g106_2 : S → S → S → S → SH → Tree) : QT := QxS (fun e h => g106_2 (e 0) (e 7) (e 8) (e 9) h) (sR106_2 C k)
def sT106_3 (C : CT) (k : Nat) (g106_2 : S → S → S → S → SH → Tree) (x0 x6 x7 x8 x9 x12 : S) (h : SH) : Tree := (kT k 2 x6 x12 h fun r3 _ => (kA k 2 x6 r3.2 fun v7 h8 => (kK (C 131 [v7] h8) (fun v10 h11 => (kI k .andNot x0 v10 h11 fun v13 h14 => (kI k .add x9 (l64 1) h14 fun v18 h19 => (g106_2 v13 x7 x8 v18 h19)))))))
def sL106_2 (C : CT) (k : Nat) (g106_2 : S → S → S → S → SH → Tree) (x0 x7 x8 x9 : S) (h : SH) : Tree := (kI k .lss x9 x8 h fun v2 h3 => (kS v2 (fun h4 => (kB k (fun h6 => sIa 2 x7 x9 (SH.pc h6)) (fun v7 h8 => (kA k 2 v7 h8 fun v10 h11 => (kB k (fun h12 => sZero z19 h12) (fun r14 _ => (sT106_3 C k g106_2 x0 r14.1 x7 x8 x9 v10 r14.2)) h11))) h4)) (fun h5 => (sK106_1 C k x0 h5)) h3))
theorem sp106_2 (C : CT) (k : Nat) (g106_2 : S → S → S → S → SH → Tree) : ds C k c106_2 (sQ106_2 C k g106_2) = fun e h => (sL106_2 C k g106_2 (e 0) (e 7) (e 8) (e 9) h) := by kernel_rfl
def sW106_2 (C : CT) (k : Nat) (x0 x7 x8 x9 : S) (h : SH) : Tree := kFix k (fun (g : S × S × S × S × Unit → SH → Tree) (x : S × S × S × S × Unit) h => sL106_2 C k (fun y0 y7 y8 y9 h => g (y0, y7, y8, y9, ()) h) x.1 x.2.1 x.2.2.1 x.2.2.2.1 h) (x0, x7, x8, x9, ()) h
theorem sn106_2 (C : CT) (k : Nat) : ∀ g : S × S × S × S × Unit → SH → Tree, ds C k c106_2 (QxS (fun e h => g ((fun e : ES => ((e 0, e 7, e 8, e 9, ()) : S × S × S × S × Unit)) e) h) (sR106_2 C k)) = fun e h => (fun (g : S × S × S × S × Unit → SH → Tree) (x : S × S × S × S × Unit) h => sL106_2 C k (fun y0 y7 y8 y9 h => g (y0, y7, y8, y9, ()) h) x.1 x.2.1 x.2.2.1 x.2.2.2.1 h) g ((fun e : ES => ((e 0, e 7, e 8, e 9, ()) : S × S × S × S × Unit)) e) h := fun g => sp106_2 C k (fun y0 y7 y8 y9 h => g (y0, y7, y8, y9, ()) h)
theorem sw106_2 (C : CT) (k : Nat) : ds C k (.loop c106_2) (sR106_2 C k) = fun e h => (sW106_2 C k (e 0) (e 7) (e 8) (e 9) h) := sloop_eq (fun e : ES => ((e 0, e 7, e 8, e 9, ()) : S × S × S × S × Unit)) (fun (g : S × S × S × S × Unit → SH → Tree) (x : S × S × S × S × Unit) h => sL106_2 C k (fun y0 y7 y8 y9 h => g (y0, y7, y8, y9, ()) h) x.1 x.2.1 x.2.2.1 x.2.2.2.1 h) (sn106_2 C k)
def sK106 (C : CT) (k : Nat) (x0 x1 : S) (h : SH) : Tree := (kB k (fun h5 => sLens x1) (fun v6 h7 => (sW106_2 C k x0 x1 v6 (l64 0) h7)) h)
theorem sp106 (C : CT) (k : Nat) : ds C k c106 (sQ106 C k) = fun e h => (sK106 C k (e 0) (e 1) h) := by
  refine Eq.trans (sseq_eq (sseq_eq (sp106_1 C k) (sseq_eq (sblock_eq (sw106_2 C k)) rfl)) rfl) ?_
  kernel_rfl
def SF106 : SF := sf2 sK106
theorem so106 : SOK IP 106 SF106 := sok2 ir106 rfl (by kernel_rfl) (by kernel_rfl) fun C k x0 x1 h => congrFun (congrFun (sp106 C k) _) h
def sQ114 (C : CT) (k : Nat) : QT := QrS k rs114
def sQ114_1 (C : CT) (k : Nat) : QT := (sQ114 C k)
def sT114_2 (C : CT) (k : Nat) (x0 x1 x2 : S) (h : SH) : Tree := (kK (C 143 [x0, x1, x2] h) (fun v8 h9 => (Tree.leaf (S.tup []) h9)))
def sT114_3 (C : CT) (k : Nat) (x0 x1 x2 : S) (h : SH) : Tree := (kK (C 142 [x0, x1, x2] h) (fun v8 h9 => (Tree.leaf (S.tup []) h9)))
def sT114_4 (C : CT) (k : Nat) (x0 x1 x2 x18 : S) (h : SH) : Tree := (kI k .eql x18 (l64 3) h fun v2 h3 => (kS v2 (fun h6 => (sT114_2 C k x0 x1 x2 h6)) (fun h7 => (Tree.leaf (S.tup []) h7)) h3))
def sT114_5 (C : CT) (k : Nat) (x0 x1 x2 : S) (h : SH) : Tree := (kK (C 141 [x0, x1, x2] h) (fun v8 h9 => (Tree.leaf (S.tup []) h9)))
def sT114_6 (C : CT) (k : Nat) (x0 x1 x2 x18 : S) (h : SH) : Tree := (kI k .eql x18 (l64 2) h fun v2 h3 => (kS v2 (fun h6 => (sT114_3 C k x0 x1 x2 h6)) (fun h7 => (sT114_4 C k x0 x1 x2 x18 h7)) h3))
def sT114_7 (C : CT) (k : Nat) (x0 x1 x2 x17 : S) (h : SH) : Tree := (kL k x17 h fun v2 h3 => (kI k .eql v2 (l64 1) h3 fun v5 h6 => (kS v5 (fun h9 => (sT114_5 C k x0 x1 x2 h9)) (fun h10 => (sT114_6 C k x0 x1 x2 v2 h10)) h6)))
def sK114_1 (C : CT) (k : Nat) (x0 x1 x2 : S) (h : SH) : Tree := (kN k x0 h fun v4 h5 => (kF k 60 v4 h5 fun v7 h8 => (kF k 0 v7 h8 fun v10 h11 => (sT114_7 C k x0 x1 x2 v10 h11))))
def sJ114_1 (C : CT) (k : Nat) : ES → SH → Tree := fun e h => (sK114_1 C k (e 0) (e 1) (e 2) h)
theorem sp114_1 (C : CT) (k : Nat) : ds C k c114_1 (sQ114_1 C k) = (sJ114_1 C k) := by kernel_rfl
def sT114_8 (C : CT) (k : Nat) (x0 x1 x2 x9 : S) (h : SH) : Tree := (kL k x9 h fun v2 h3 => (kI k .eql v2 (l64 0) h3 fun v5 h6 => (kS v5 (fun h7 => (kK (C 140 [x0] h7) (fun v12 h13 => (sK114_1 C k x0 x1 x2 h13)))) (fun h8 => (sK114_1 C k x0 x1 x2 h8)) h6)))
def sK114 (C : CT) (k : Nat) (x0 x1 x2 : S) (h : SH) : Tree := (kN k x0 h fun v4 h5 => (kF k 60 v4 h5 fun v7 h8 => (kF k 0 v7 h8 fun v10 h11 => (sT114_8 C k x0 x1 x2 v10 h11))))
theorem sp114 (C : CT) (k : Nat) : ds C k c114 (sQ114 C k) = fun e h => (sK114 C k (e 0) (e 1) (e 2) h) := by
  refine Eq.trans (sseq_eq (sp114_1 C k) rfl) ?_
  kernel_rfl
def SF114 : SF := sf3 sK114
theorem so114 : SOK IP 114 SF114 := sok3 ir114 rfl (by kernel_rfl) (by kernel_rfl) fun C k x0 x1 x2 h => congrFun (congrFun (sp114 C k) _) h
def sQ115 (C : CT) (k : Nat) : QT := QrS k rs115
def sQ115_1 (C : CT) (k : Nat) : QT := (sQ115 C k)
def sK115_1 (C : CT) (k : Nat) (h : SH) : Tree := (Tree.leaf (S.b true) h)
def sJ115_1 (C : CT) (k : Nat) : ES → SH → Tree := fun e h => (sK115_1 C k h)
theorem sp115_1 (C : CT) (k : Nat) : ds C k c115_1 (sQ115_1 C k) = (sJ115_1 C k) := by kernel_rfl
def sT115_2 (C : CT) (k : Nat) (x44 : S) (h : SH) : Tree := (kT k 1 x44 (l64 3) h fun r3 _ => (sK115_1 C k r3.2))
def sT115_3 (C : CT) (k : Nat) (x0 x37 x40 : S) (h : SH) : Tree := (kT k 1 x40 x37 h fun r3 _ => (kN k x0 r3.2 fun v7 h8 => (kF k 35 v7 h8 fun v10 h11 => (kF k 0 v10 h11 fun v13 h14 => (sT115_2 C k v13 h14)))))
def sT115_4 (C : CT) (k : Nat) (x0 x25 x37 : S) (h : SH) : Tree := (kN k x25 h fun v2 h3 => (kF k 35 v2 h3 fun v5 h6 => (kF k 9 v5 h6 fun v8 h9 => (sT115_3 C k x0 x37 v8 h9))))
def sT115_5 (C : CT) (k : Nat) (x0 x25 x26 x30 x34 : S) (h : SH) : Tree := (kL k x34 h fun v2 h3 => (kK (C 145 [x30, v2] h3) (fun v5 h6 => (kK (C 96 [x26, v5] h6) (fun v8 h9 => (sT115_4 C k x0 x25 v8 h9))))))
def sT115_6 (C : CT) (k : Nat) (x0 x25 x26 x30 x31 : S) (h : SH) : Tree := (kN k x31 h fun v2 h3 => (kF k 35 v2 h3 fun v5 h6 => (kF k 8 v5 h6 fun v8 h9 => (sT115_5 C k x0 x25 x26 x30 v8 h9))))
def sQ115_7 (C : CT) (k : Nat) : QT := (QbS 0 (QxS (sJ115_1 C k) (sQ115 C k)))
def sT115_8 (C : CT) (k : Nat) (x0 x1 x2 : S) (h : SH) : Tree := (kK (C 147 [x0, x1, x2] h) (fun v8 h9 => (sK115_1 C k h9)))
def sT115_9 (C : CT) (k : Nat) (x0 x1 x2 : S) (h : SH) : Tree := (kK (C 148 [x0, x1, x2] h) (fun v8 h9 => (sK115_1 C k h9)))
def sK115_7 (C : CT) (k : Nat) (x0 x1 x2 x51 : S) (h : SH) : Tree := (kS x51 (fun h1 => (sT115_8 C k x0 x1 x2 h1)) (fun h2 => (sT115_9 C k x0 x1 x2 h2)) h)
def sJ115_7 (C : CT) (k : Nat) : ES → SH → Tree := fun e h => (sK115_7 C k (e 0) (e 1) (e 2) (e 51) h)
theorem sp115_7 (C : CT) (k : Nat) : ds C k c115_7 (sQ115_7 C k) = (sJ115_7 C k) := by kernel_rfl
def sT115_10 (C : CT) (k : Nat) (x0 x1 x2 : S) (h : SH) : Tree := (kK (C 146 [x0, x1, x2] h) (fun v8 h9 => (sK115_1 C k h9)))
def sT115_11 (C : CT) (k : Nat) (x0 x1 x2 x11 : S) (h : SH) : Tree := (kI k .eql x11 (l64 4) h fun v2 h3 => (kS v2 (fun h6 => (sK115_7 C k x0 x1 x2 v2 h6)) (fun h7 => (kI k .eql x11 (l64 5) h7 fun v9 h10 => (sK115_7 C k x0 x1 x2 v9 h10))) h3))
def sT115_12 (C : CT) (k : Nat) (x0 x1 : S) (h : SH) : Tree := (kN k x0 h fun v8 h9 => (kF k 28 v8 h9 fun v11 h12 => (kL k v11 h12 fun v14 h15 => (sT115_6 C k x0 x0 x1 v14 x0 h15))))
def sT115_13 (C : CT) (k : Nat) (x0 x1 x2 x11 : S) (h : SH) : Tree := (kI k .eql x11 (l64 3) h fun v2 h3 => (kS v2 (fun h6 => (sT115_10 C k x0 x1 x2 h6)) (fun h7 => (sT115_11 C k x0 x1 x2 x11 h7)) h3))
def sT115_14 (C : CT) (k : Nat) (x0 x2 : S) (h : SH) : Tree := (kK (C 144 [x0, x2] h) (fun v6 h7 => (sK115_1 C k h7)))
def sT115_15 (C : CT) (k : Nat) (x0 x1 x2 x11 : S) (h : SH) : Tree := (kI k .eql x11 (l64 2) h fun v2 h3 => (kS v2 (fun h6 => (sT115_12 C k x0 x1 h6)) (fun h7 => (sT115_13 C k x0 x1 x2 x11 h7)) h3))
def sT115_16 (C : CT) (k : Nat) (x0 x1 x2 x11 : S) (h : SH) : Tree := (kI k .eql x11 (l64 1) h fun v2 h3 => (kS v2 (fun h6 => (sT115_14 C k x0 x2 h6)) (fun h7 => (sT115_15 C k x0 x1 x2 x11 h7)) h3))
def sT115_17 (C : CT) (k : Nat) (x0 x1 x2 x10 : S) (h : SH) : Tree := (kL k x10 h fun v2 h3 => (kI k .eql v2 (l64 0) h3 fun v5 h6 => (kS v5 (fun h9 => (Tree.leaf (S.b false) h9)) (fun h10 => (sT115_16 C k x0 x1 x2 v2 h10)) h6)))
def sK115 (C : CT) (k : Nat) (x0 x1 x2 : S) (h : SH) : Tree := (kN k x0 h fun v6 h7 => (kF k 35 v6 h7 fun v9 h10 => (kF k 0 v9 h10 fun v12 h13 => (sT115_17 C k x0 x1 x2 v12 h13))))
theorem sp115 (C : CT) (k : Nat) : ds C k c115 (sQ115 C k) = fun e h => (sK115 C k (e 0) (e 1) (e 2) h) := by
  refine Eq.trans (sseq_eq (sseq_eq (sp115_1 C k) (sseq_eq (sblock_eq (sseq_eq (scond_eq rfl (sseq_eq (scond_eq rfl (sseq_eq (scond_eq rfl (sseq_eq (scond_eq rfl (sseq_eq (sp115_7 C k) rfl)) rfl)) rfl)) rfl)) rfl)) rfl)) rfl) ?_
  kernel_rfl
def SF115 : SF := sf3 sK115
theorem so115 : SOK IP 115 SF115 := sok3 ir115 rfl (by kernel_rfl) (by kernel_rfl) fun C k x0 x1 x2 h => congrFun (congrFun (sp115 C k) _) h
def sQ128 (C : CT) (k : Nat) : QT := QrS k rs128
def sK128 (C : CT) (k : Nat) (x0 : S) (h : SH) : Tree := (kB k (fun h5 => sMax x0 [(l64 0)] (SH.pc h5)) (fun v6 h7 => (kB k (fun h8 => sMin v6 [(l64 1099511627776)] (SH.pc h8)) (fun v9 h10 => (Tree.leaf v9 h10)) h7)) h)
theorem sp128 (C : CT) (k : Nat) : ds C k c128 (sQ128 C k) = fun e h => (sK128 C k (e 0) h) := by kernel_rfl
def SF128 : SF := sf1 sK128
theorem so128 : SOK IP 128 SF128 := sok1 ir128 rfl (by kernel_rfl) (by kernel_rfl) fun C k x0 h => congrFun (congrFun (sp128 C k) _) h
def sQ129 (C : CT) (k : Nat) : QT := QrS k rs129
def sK129 (C : CT) (k : Nat) (x0 x1 : S) (h : SH) : Tree := (kK (C 173 [x0, x1] h) (fun v8 h9 => (kI k .geq v8 (l64 0) h9 fun v11 h12 => (Tree.leaf v11 h12))))
theorem sp129 (C : CT) (k : Nat) : ds C k c129 (sQ129 C k) = fun e h => (sK129 C k (e 0) (e 1) h) := by kernel_rfl
def SF129 : SF := sf2 sK129
theorem so129 : SOK IP 129 SF129 := sok2 ir129 rfl (by kernel_rfl) (by kernel_rfl) fun C k x0 x1 h => congrFun (congrFun (sp129 C k) _) h
def sQ130 (C : CT) (k : Nat) : QT := QrS k rs130
def sT130_1 (C : CT) (k : Nat) (x16 x18 x20 : S) (h : SH) : Tree := (kB k (gd x16 true uS (fun h1 => sBin .sub (l64 64) x20 (SH.pc h1))) (fun v2 h3 => (kB k (gd x16 true uS (fun h4 => sBin .leq x18 v2 (SH.pc h4))) (fun v5 h6 => (kB k (fun h7 => sPick x16 v5 (S.b false) (SH.pc h7)) (fun v8 h9 => (Tree.leaf v8 h9)) h6)) h3)) h)
def sT130_2 (C : CT) (k : Nat) (x1 x16 x17 : S) (h : SH) : Tree := (kB k (gd x16 true uS (fun h1 => sLd1 x17 h1)) (fun v2 h3 => (kB k (gd x16 true uS (fun h4 => sFa 0 x1)) (fun v5 h6 => (kB k (gd x16 true uS (fun h7 => sLd1 v5 h7)) (fun v8 h9 => (sT130_1 C k x16 v2 v8 h9)) h6)) h3)) h)
def sT130_3 (C : CT) (k : Nat) (x1 x11 x13 : S) (h : SH) : Tree := (kB k (gd x11 true uS (fun h1 => sBin .lss x13 (l64 64) (SH.pc h1))) (fun v2 h3 => (kB k (fun h4 => sPick x11 v2 (S.b false) (SH.pc h4)) (fun v5 h6 => (kB k (gd v5 true uS (fun h9 => sFa 1 x1)) (fun v10 h11 => (sT130_2 C k x1 v5 v10 h11)) h6)) h3)) h)
def sT130_4 (C : CT) (k : Nat) (x1 x6 x9 : S) (h : SH) : Tree := (kB k (fun h1 => sPick x6 x9 (S.b false) (SH.pc h1)) (fun v2 h3 => (kB k (gd v2 true uS (fun h6 => sFa 0 x1)) (fun v7 h8 => (kB k (gd v2 true uS (fun h9 => sLd1 v7 h9)) (fun v10 h11 => (sT130_3 C k x1 v2 v10 h11)) h8)) h3)) h)
def sT130_5 (C : CT) (k : Nat) (x1 x6 : S) (h : SH) : Tree := (kB k (gd x6 true uS (fun h1 => sFa 1 x1)) (fun v2 h3 => (kB k (gd x6 true uS (fun h4 => sLd1 v2 h4)) (fun v5 h6 => (kB k (gd x6 true uS (fun h7 => sBin .geq v5 (l64 1) (SH.pc h7))) (fun v8 h9 => (sT130_4 C k x1 x6 v8 h9)) h6)) h3)) h)
def sK130 (C : CT) (k : Nat) (x0 : S) (h : SH) : Tree := (kB k (fun h1 => sBox x0 h1) (fun r3 _ => (kF k 0 r3.1 r3.2 fun v7 h8 => (kL k v7 h8 fun v10 h11 => (kI k .geq v10 (l64 0) h11 fun v13 h14 => (sT130_5 C k r3.1 v13 h14))))) h)
theorem sp130 (C : CT) (k : Nat) : ds C k c130 (sQ130 C k) = fun e h => (sK130 C k (e 0) h) := by kernel_rfl
def SF130 : SF := sf1 sK130
theorem so130 : SOK IP 130 SF130 := sok1 ir130 rfl (by kernel_rfl) (by kernel_rfl) fun C k x0 h => congrFun (congrFun (sp130 C k) _) h
def sQ131 (C : CT) (k : Nat) : QT := QrS k rs131
def sK131 (C : CT) (k : Nat) (x0 : S) (h : SH) : Tree := (kB k (fun h1 => sBox x0 h1) (fun r3 _ => (kA k 2 r3.1 r3.2 fun v7 h8 => (kK (C 130 [v7] h8) (fun v10 h11 => (kB k (fun h12 => sUn .not v10 (SH.pc h12)) (fun v13 h14 => (kS v13 (fun h15 => (Tree.leaf (S.i .u64 (.lit 0)) h15)) (fun h16 => (kA k 2 r3.1 h16 fun v20 h21 => (kK (C 132 [v20] h21) (fun v23 h24 => (kF k 0 r3.1 h24 fun v26 h27 => (kL k v26 h27 fun v29 h30 => (kI k .shl v23 v29 h30 fun v32 h33 => (kC (stdyS false 1 v26 h21 h24) (Tree.leaf v32 h33))))))))) h14)) h11))))) h)
theorem sp131 (C : CT) (k : Nat) : ds C k c131 (sQ131 C k) = fun e h => (sK131 C k (e 0) h) := by kernel_rfl
def SF131 : SF := sf1 sK131
theorem so131 : SOK IP 131 SF131 := sok1 ir131 rfl (by kernel_rfl) (by kernel_rfl) fun C k x0 h => congrFun (congrFun (sp131 C k) _) h
def sQ132 (C : CT) (k : Nat) : QT := QrS k rs132
def sT132_1 (C : CT) (k : Nat) (x8 : S) (h : SH) : Tree := (kI k .shr (S.i .u64 (.lit 18446744073709551615)) x8 h fun v2 h3 => (Tree.leaf v2 h3))
def sK132 (C : CT) (k : Nat) (x0 : S) (h : SH) : Tree := (kB k (fun h1 => sBox x0 h1) (fun r3 _ => (kA k 2 r3.1 r3.2 fun v7 h8 => (kK (C 130 [v7] h8) (fun v10 h11 => (kB k (fun h12 => sUn .not v10 (SH.pc h12)) (fun v13 h14 => (kS v13 (fun h15 => (Tree.leaf (S.i .u64 (.lit 0)) h15)) (fun h16 => (kF k 1 r3.1 h16 fun v20 h21 => (kL k v20 h21 fun v23 h24 => (kI k .sub (l64 64) v23 h24 fun v26 h27 => (sT132_1 C k v26 h27))))) h14)) h11))))) h)
theorem sp132 (C : CT) (k : Nat) : ds C k c132 (sQ132 C k) = fun e h => (sK132 C k (e 0) h) := by kernel_rfl
def SF132 : SF := sf1 sK132
theorem so132 : SOK IP 132 SF132 := sok1 ir132 rfl (by kernel_rfl) (by kernel_rfl) fun C k x0 h => congrFun (congrFun (sp132 C k) _) h
def sQ133 (C : CT) (k : Nat) : QT := QrS k rs133
def sT133_1 (C : CT) (k : Nat) (x29 x31 : S) (h : SH) : Tree := (kB k (gd x29 true uS (fun h1 => sBin .leq x31 (l64 16777215) (SH.pc h1))) (fun v2 h3 => (kB k (fun h4 => sPick x29 v2 (S.b false) (SH.pc h4)) (fun v5 h6 => (Tree.leaf v5 h6)) h3)) h)
def sT133_2 (C : CT) (k : Nat) (x1 x24 x27 : S) (h : SH) : Tree := (kB k (fun h1 => sPick x24 x27 (S.b false) (SH.pc h1)) (fun v2 h3 => (kB k (gd v2 true uS (fun h6 => sFa 2 x1)) (fun v7 h8 => (kB k (gd v2 true uS (fun h9 => sLd1 v7 h9)) (fun v10 h11 => (sT133_1 C k v2 v10 h11)) h8)) h3)) h)
def sT133_3 (C : CT) (k : Nat) (x1 x24 : S) (h : SH) : Tree := (kB k (gd x24 true uS (fun h1 => sFa 2 x1)) (fun v2 h3 => (kB k (gd x24 true uS (fun h4 => sLd1 v2 h4)) (fun v5 h6 => (kB k (gd x24 true uS (fun h7 => sBin .geq v5 (l64 1) (SH.pc h7))) (fun v8 h9 => (sT133_2 C k x1 x24 v8 h9)) h6)) h3)) h)
def sT133_4 (C : CT) (k : Nat) (x1 x16 x18 x20 : S) (h : SH) : Tree := (kB k (gd x16 true uS (fun h1 => sBin .sub (l64 16384) x20 (SH.pc h1))) (fun v2 h3 => (kB k (gd x16 true uS (fun h4 => sBin .leq x18 v2 (SH.pc h4))) (fun v5 h6 => (kB k (fun h7 => sPick x16 v5 (S.b false) (SH.pc h7)) (fun v8 h9 => (sT133_3 C k x1 v8 h9)) h6)) h3)) h)
def sT133_5 (C : CT) (k : Nat) (x1 x16 x17 : S) (h : SH) : Tree := (kB k (gd x16 true uS (fun h1 => sLd1 x17 h1)) (fun v2 h3 => (kB k (gd x16 true uS (fun h4 => sFa 1 x1)) (fun v5 h6 => (kB k (gd x16 true uS (fun h7 => sLd1 v5 h7)) (fun v8 h9 => (sT133_4 C k x1 x16 v2 v8 h9)) h6)) h3)) h)
def sT133_6 (C : CT) (k : Nat) (x1 x11 x13 : S) (h : SH) : Tree := (kB k (gd x11 true uS (fun h1 => sBin .geq x13 (l64 0) (SH.pc h1))) (fun v2 h3 => (kB k (fun h4 => sPick x11 v2 (S.b false) (SH.pc h4)) (fun v5 h6 => (kB k (gd v5 true uS (fun h9 => sFa 0 x1)) (fun v10 h11 => (sT133_5 C k x1 v5 v10 h11)) h6)) h3)) h)
def sT133_7 (C : CT) (k : Nat) (x1 x6 x9 : S) (h : SH) : Tree := (kB k (fun h1 => sPick x6 x9 (S.b false) (SH.pc h1)) (fun v2 h3 => (kB k (gd v2 true uS (fun h6 => sFa 0 x1)) (fun v7 h8 => (kB k (gd v2 true uS (fun h9 => sLd1 v7 h9)) (fun v10 h11 => (sT133_6 C k x1 v2 v10 h11)) h8)) h3)) h)
def sT133_8 (C : CT) (k : Nat) (x1 x6 : S) (h : SH) : Tree := (kB k (gd x6 true uS (fun h1 => sFa 1 x1)) (fun v2 h3 => (kB k (gd x6 true uS (fun h4 => sLd1 v2 h4)) (fun v5 h6 => (kB k (gd x6 true uS (fun h7 => sBin .leq v5 (l64 16) (SH.pc h7))) (fun v8 h9 => (sT133_7 C k x1 x6 v8 h9)) h6)) h3)) h)
def sK133 (C : CT) (k : Nat) (x0 : S) (h : SH) : Tree := (kB k (fun h1 => sBox x0 h1) (fun r3 _ => (kF k 1 r3.1 r3.2 fun v7 h8 => (kL k v7 h8 fun v10 h11 => (kI k .geq v10 (l64 1) h11 fun v13 h14 => (sT133_8 C k r3.1 v13 h14))))) h)
theorem sp133 (C : CT) (k : Nat) : ds C k c133 (sQ133 C k) = fun e h => (sK133 C k (e 0) h) := by kernel_rfl
def SF133 : SF := sf1 sK133
theorem so133 : SOK IP 133 SF133 := sok1 ir133 rfl (by kernel_rfl) (by kernel_rfl) fun C k x0 h => congrFun (congrFun (sp133 C k) _) h
def sQ134 (C : CT) (k : Nat) : QT := QrS k rs134
def sQ134_1 (C : CT) (k : Nat) : QT := (sQ134 C k)
def sK134_1 (C : CT) (k : Nat) (x3 : S) (h : SH) : Tree := (Tree.leaf x3 h)
def sJ134_1 (C : CT) (k : Nat) : ES → SH → Tree := fun e h => (sK134_1 C k (e 3) h)
theorem sp134_1 (C : CT) (k : Nat) : ds C k c134_1 (sQ134_1 C k) = (sJ134_1 C k) := by kernel_rfl
def sR134_2 (C : CT) (k : Nat) : QT := (QbS 0 (QxS (sJ134_1 C k) (sQ134 C k)))
def sQ134_2 (C : CT) (k : Nat) (g134_2 : S → S → S → SH → Tree) : QT := QxS (fun e h => g134_2 (e 3) (e 16) (e 17) h) (sR134_2 C k)
def sT134_3 (C : CT) (k : Nat) (g134_2 : S → S → S → SH → Tree) (x3 x16 x17 x32 : S) (h : SH) : Tree := (kT k 1 x32 (S.b true) h fun r3 _ => (kI k .add x17 (l64 1) r3.2 fun v5 h6 => (g134_2 x3 x16 v5 h6)))
def sT134_4 (C : CT) (k : Nat) (g134_2 : S → S → S → SH → Tree) (x3 x16 x17 x23 x24 x28 x29 x30 : S) (h : SH) : Tree := (kB k (fun h1 => sIa 1 x23 x24 (SH.pc h1)) (fun v2 h3 => (kT k 1 v2 x30 h3 fun r6 _ => (kB k (fun h7 => sIa 1 x28 x29 (SH.pc h7)) (fun v8 h9 => (sT134_3 C k g134_2 x3 x16 x17 v8 h9)) r6.2))) h)
def sT134_5 (C : CT) (k : Nat) (g134_2 : S → S → S → SH → Tree) (x3 x4 x16 x17 x23 x24 x25 : S) (h : SH) : Tree := (kN k x25 h fun v2 h3 => (kF k 4 v2 h3 fun v5 h6 => (kL k v5 h6 fun v8 h9 => (sT134_4 C k g134_2 x3 x16 x17 x23 x24 v8 x4 x4 h9))))
def sL134_2 (C : CT) (k : Nat) (g134_2 : S → S → S → SH → Tree) (x3 x16 x17 : S) (h : SH) : Tree := (kI k .lss x17 x16 h fun v2 h3 => (kS v2 (fun h4 => (kN k x3 h4 fun v13 h14 => (kF k 1 v13 h14 fun v16 h17 => (kL k v16 h17 fun v19 h20 => (sT134_5 C k g134_2 x3 x17 x16 x17 v19 x17 x3 h20))))) (fun h5 => (sK134_1 C k x3 h5)) h3))
theorem sp134_2 (C : CT) (k : Nat) (g134_2 : S → S → S → SH → Tree) : ds C k c134_2 (sQ134_2 C k g134_2) = fun e h => (sL134_2 C k g134_2 (e 3) (e 16) (e 17) h) := by kernel_rfl
def sW134_2 (C : CT) (k : Nat) (x3 x16 x17 : S) (h : SH) : Tree := kFix k (fun (g : S × S × S × Unit → SH → Tree) (x : S × S × S × Unit) h => sL134_2 C k (fun y3 y16 y17 h => g (y3, y16, y17, ()) h) x.1 x.2.1 x.2.2.1 h) (x3, x16, x17, ()) h
theorem sn134_2 (C : CT) (k : Nat) : ∀ g : S × S × S × Unit → SH → Tree, ds C k c134_2 (QxS (fun e h => g ((fun e : ES => ((e 3, e 16, e 17, ()) : S × S × S × Unit)) e) h) (sR134_2 C k)) = fun e h => (fun (g : S × S × S × Unit → SH → Tree) (x : S × S × S × Unit) h => sL134_2 C k (fun y3 y16 y17 h => g (y3, y16, y17, ()) h) x.1 x.2.1 x.2.2.1 h) g ((fun e : ES => ((e 3, e 16, e 17, ()) : S × S × S × Unit)) e) h := fun g => sp134_2 C k (fun y3 y16 y17 h => g (y3, y16, y17, ()) h)
theorem sw134_2 (C : CT) (k : Nat) : ds C k (.loop c134_2) (sR134_2 C k) = fun e h => (sW134_2 C k (e 3) (e 16) (e 17) h) := sloop_eq (fun e : ES => ((e 3, e 16, e 17, ()) : S × S × S × Unit)) (fun (g : S × S × S × Unit → SH → Tree) (x : S × S × S × Unit) h => sL134_2 C k (fun y3 y16 y17 h => g (y3, y16, y17, ()) h) x.1 x.2.1 x.2.2.1 h) (sn134_2 C k)
def sT134_6 (C : CT) (k : Nat) (x0 x14 : S) (h : SH) : Tree := (kB k (fun h1 => sBox x14 h1) (fun r3 _ => (sW134_2 C k r3.1 x0 (l64 0) r3.2)) h)
def sK134 (C : CT) (k : Nat) (x0 : S) (h : SH) : Tree := (kB k (fun h5 => sMax x0 [(l64 0)] (SH.pc h5)) (fun v6 h7 => (kB k (fun h8 => sMin v6 [(l64 1024)] (SH.pc h8)) (fun v9 h10 => (kB k (fun h17 => sMake 8 [(.i .i64 0)] v9 h17) (fun r19 _ => (kB k (fun h24 => sMake 1 [(.b false)] v9 h24) (fun r26 _ => (kB k (fun h27 => sBld [(.i .i64 0), .nsl, (.i .i64 0), (.i .i64 0), .nsl] [(0, 1, v9), (1, 1, r19.1), (3, 1, v9), (4, 1, r26.1)]) (fun v28 h29 => (sT134_6 C k v9 v28 h29)) r26.2)) r19.2)) h10)) h7)) h)
theorem sp134 (C : CT) (k : Nat) : ds C k c134 (sQ134 C k) = fun e h => (sK134 C k (e 0) h) := by
  refine Eq.trans (sseq_eq (sseq_eq (sseq_eq (sseq_eq (sp134_1 C k) (sseq_eq (sblock_eq (sw134_2 C k)) rfl)) rfl) rfl) rfl) ?_
  kernel_rfl
def SF134 : SF := sf1 sK134
theorem so134 : SOK IP 134 SF134 := sok1 ir134 rfl (by kernel_rfl) (by kernel_rfl) fun C k x0 h => congrFun (congrFun (sp134 C k) _) h
def sQ135 (C : CT) (k : Nat) : QT := QrS k rs135
def sK135 (C : CT) (k : Nat) (x0 : S) (h : SH) : Tree := (kB k (fun h5 => sMax x0 [(l64 0)] (SH.pc h5)) (fun v6 h7 => (kB k (fun h8 => sMin v6 [(l64 1048576)] (SH.pc h8)) (fun v9 h10 => (Tree.leaf v9 h10)) h7)) h)
theorem sp135 (C : CT) (k : Nat) : ds C k c135 (sQ135 C k) = fun e h => (sK135 C k (e 0) h) := by kernel_rfl
def SF135 : SF := sf1 sK135
theorem so135 : SOK IP 135 SF135 := sok1 ir135 rfl (by kernel_rfl) (by kernel_rfl) fun C k x0 h => congrFun (congrFun (sp135 C k) _) h
def sQ136 (C : CT) (k : Nat) : QT := QrS k rs136
def sT136_1 (C : CT) (k : Nat) (x12 : S) (h : SH) : Tree := (kB k (fun h1 => sBox x12 h1) (fun r3 _ => (Tree.leaf r3.1 r3.2)) h)
def sT136_2 (C : CT) (k : Nat) (x7 x9 : S) (h : SH) : Tree := (kB k (fun h1 => sMin x9 [(l64 16)] (SH.pc h1)) (fun v2 h3 => (kB k (fun h4 => sMake 16 z19 v2 h4) (fun r6 _ => (kB k (fun h7 => sBld [(.i .i64 0), .nsl, (.i .i64 0)] [(0, 1, x7), (1, 1, r6.1)]) (fun v8 h9 => (sT136_1 C k v8 h9)) r6.2)) h3)) h)
def sK136 (C : CT) (k : Nat) (x0 x1 : S) (h : SH) : Tree := (kK (C 128 [x1] h) (fun v6 h7 => (kB k (fun h8 => sMax v6 [(l64 1)] (SH.pc h8)) (fun v9 h10 => (kB k (fun h13 => sMax x0 [(l64 1)] (SH.pc h13)) (fun v14 h15 => (sT136_2 C k v9 v14 h15)) h10)) h7)))
theorem sp136 (C : CT) (k : Nat) : ds C k c136 (sQ136 C k) = fun e h => (sK136 C k (e 0) (e 1) h) := by kernel_rfl
def SF136 : SF := sf2 sK136
theorem so136 : SOK IP 136 SF136 := sok2 ir136 rfl (by kernel_rfl) (by kernel_rfl) fun C k x0 x1 h => congrFun (congrFun (sp136 C k) _) h
def sQ137 (C : CT) (k : Nat) : QT := QrS k rs137
def sK137 (C : CT) (k : Nat) (x0 : S) (h : SH) : Tree := (kB k (fun h5 => sEqz false .s x0 S.nsl (SH.pc h5)) (fun v6 h7 => (kS v6 (fun h8 => (Tree.leaf S.nsl h8)) (fun h9 => (kB k (fun h12 => sNewSl 0 [] [] h12) (fun r14 _ => (kB k (fun h17 => sApp 1 8 r14.1 x0 h17) (fun r19 _ => (Tree.leaf r19.1 r19.2)) r14.2)) h9)) h7)) h)
theorem sp137 (C : CT) (k : Nat) : ds C k c137 (sQ137 C k) = fun e h => (sK137 C k (e 0) h) := by kernel_rfl
def SF137 : SF := sf1 sK137
theorem so137 : SOK IP 137 SF137 := sok1 ir137 rfl (by kernel_rfl) (by kernel_rfl) fun C k x0 h => congrFun (congrFun (sp137 C k) _) h
def sQ138 (C : CT) (k : Nat) : QT := QrS k rs138
def sT138_1 (C : CT) (k : Nat) (x7 x8 x9 : S) (h : SH) : Tree := (kB k (gd x7 true uS (fun h1 => sBin .leq x8 x9 (SH.pc h1))) (fun v2 h3 => (kB k (fun h4 => sPick x7 v2 (S.b false) (SH.pc h4)) (fun v5 h6 => (Tree.leaf v5 h6)) h3)) h)
def sK138 (C : CT) (k : Nat) (x0 x1 : S) (h : SH) : Tree := (kI k .geq x0 (l64 0) h fun v6 h7 => (kB k (gd v6 true uS (fun h10 => Res.ok x0)) (fun v11 h12 => (kB k (gd v6 true uS (fun h13 => Res.ok x1)) (fun v14 h15 => (sT138_1 C k v6 v11 v14 h15)) h12)) h7))
theorem sp138 (C : CT) (k : Nat) : ds C k c138 (sQ138 C k) = fun e h => (sK138 C k (e 0) (e 1) h) := by kernel_rfl
def SF138 : SF := sf2 sK138
theorem so138 : SOK IP 138 SF138 := sok2 ir138 rfl (by kernel_rfl) (by kernel_rfl) fun C k x0 x1 h => congrFun (congrFun (sp138 C k) _) h
def sQ140 (C : CT) (k : Nat) : QT := QrS k rs140
def sT140_1 (C : CT) (k : Nat) (x0 x3 x75 x78 : S) (h : SH) : Tree := (kX k x75 1 h fun v2 h3 => (kB k (fun h4 => sZero z20 h4) (fun r6 _ => (kT k 3 r6.1 x78 r6.2 fun r9 _ => (kA k 11 x3 r9.2 fun v19 h20 => (kA k 11 x3 h20 fun v24 h25 => (kK (C 179 [x0, v24] h25) (fun v27 h28 => (kA k 3 r6.1 h28 fun v30 h31 => (kK (C 178 [v27, v30] h31) (fun v33 h34 => (kN k x0 h34 fun v36 h37 => (kF k 60 v36 h37 fun v39 h40 => (kF k 0 v39 h40 fun v42 h43 => (kT k 1 v42 (l64 2) h43 fun r46 _ => (kN k x0 r46.2 fun v48 h49 => (kF k 60 v48 h49 fun v51 h52 => (kF k 24 v51 h52 fun v54 h55 => (kT k 11 v54 v19 h55 fun r58 _ => (kN k x0 r58.2 fun v60 h61 => (kF k 60 v60 h61 fun v63 h64 => (kF k 15 v63 h64 fun v66 h67 => (kT k 9 v66 v33 h67 fun r70 _ => (kC (stdyS true 11 x3 h25 h28) (kC (stdyS true 11 x3 h31 h34) (kC (stdyS true 11 x3 h43 r46.2) (kC (stdyS true 3 r6.1 h25 h28) (Tree.leaf (S.tup []) r70.2)))))))))))))))))))))))))) h3))
def sT140_2 (C : CT) (k : Nat) (x73 : S) (h : SH) : Tree := (kK (C 177 [x73] h) (fun v2 h3 => (Tree.leaf (S.tup []) h3)))
def sT140_3 (C : CT) (k : Nat) (x0 : S) (h : SH) : Tree := (kN k x0 h fun v4 h5 => (kF k 33 v4 h5 fun v7 h8 => (kL k v7 h8 fun v10 h11 => (sT140_2 C k v10 h11))))
def sT140_4 (C : CT) (k : Nat) (x0 x3 x58 x67 : S) (h : SH) : Tree := (kB k (gd x58 true uS (fun h1 => sEqz false .p x67 (S.p none) (SH.pc h1))) (fun v2 h3 => (kB k (fun h4 => sPick x58 v2 (S.b false) (SH.pc h4)) (fun v5 h6 => (kS v5 (fun h7 => (sT140_3 C k x0 h7)) (fun h8 => (kA k 11 x3 h8 fun v10 h11 => (kK (C 49 [v10] h11) (fun v13 h14 => (kX k v13 0 h14 fun v18 h19 => (sT140_1 C k x0 x3 v13 v18 h19)))))) h6)) h3)) h)
def sT140_5 (C : CT) (k : Nat) (x0 x3 x58 x62 x64 : S) (h : SH) : Tree := (kB k (gd x58 true uS (fun h1 => sFa 4 x3)) (fun v2 h3 => (kB k (gd x58 true uS (fun h4 => sLd1 v2 h4)) (fun v5 h6 => (kK (kG x58 true (fun h7 => C 176 [x62, x64, v5] h7) h6) (fun v8 h9 => (sT140_4 C k x0 x3 x58 v8 h9)))) h3)) h)
def sT140_6 (C : CT) (k : Nat) (x0 x3 x58 x61 : S) (h : SH) : Tree := (kB k (gd x58 true uS (fun h1 => sLd1 x61 h1)) (fun v2 h3 => (kB k (gd x58 true uS (fun h4 => sFa 3 x3)) (fun v5 h6 => (kB k (gd x58 true uS (fun h7 => sLd1 v5 h7)) (fun v8 h9 => (sT140_5 C k x0 x3 x58 v2 v8 h9)) h6)) h3)) h)
def sT140_7 (C : CT) (k : Nat) (x0 x3 x58 : S) (h : SH) : Tree := (kB k (gd x58 true uS (fun h1 => Res.ok x0)) (fun v2 h3 => (kB k (gd x58 true uS (fun h4 => sNilc v2)) (fun v5 h6 => (kB k (gd x58 true uS (fun h7 => sFa 29 v5)) (fun v8 h9 => (sT140_6 C k x0 x3 x58 v8 h9)) h6)) h3)) h)
def sT140_8 (C : CT) (k : Nat) (x0 x53 x54 : S) (h : SH) : Tree := (kB k (fun h1 => sZero z9 h1) (fun r3 _ => (kT k 11 r3.1 x53 r3.2 fun r6 _ => (kF k 0 r3.1 r6.2 fun v10 h11 => (kL k v10 h11 fun v13 h14 => (kI k .eql v13 (l64 1) h14 fun v16 h17 => (sT140_7 C k x0 r3.1 v16 h17)))))) h)
def sT140_9 (C : CT) (k : Nat) (x0 x51 : S) (h : SH) : Tree := (kK (C 175 [x51] h) (fun v2 h3 => (kX k v2 0 h3 fun v7 h8 => (kX k v2 1 h8 fun v10 h11 => (sT140_8 C k x0 v7 v10 h11)))))
def sT140_10 (C : CT) (k : Nat) (x114 x121 : S) (h : SH) : Tree := (kF k 60 x121 h fun v2 h3 => (kF k 7 v2 h3 fun v5 h6 => (kT k 8 v5 x114 h6 fun r9 _ => (Tree.leaf (S.tup []) r9.2))))
def sT140_11 (C : CT) (k : Nat) (x102 x103 x114 x119 : S) (h : SH) : Tree := (kF k 1 x119 h fun v2 h3 => (kT k 1 v2 x103 h3 fun r6 _ => (kN k x102 r6.2 fun v8 h9 => (sT140_10 C k x114 v8 h9))))
def sT140_12 (C : CT) (k : Nat) (x101 x102 x103 x114 x117 : S) (h : SH) : Tree := (kT k 1 x117 (l64 1) h fun r3 _ => (kN k x101 r3.2 fun v5 h6 => (kF k 60 v5 h6 fun v8 h9 => (sT140_11 C k x102 x103 x114 v8 h9))))
def sT140_13 (C : CT) (k : Nat) (x100 x101 x102 x103 x114 : S) (h : SH) : Tree := (kN k x100 h fun v2 h3 => (kF k 60 v2 h3 fun v5 h6 => (kF k 0 v5 h6 fun v8 h9 => (sT140_12 C k x101 x102 x103 x114 v8 h9))))
def sT140_14 (C : CT) (k : Nat) (x100 x101 x102 x103 x108 x111 : S) (h : SH) : Tree := (kF k 2 x111 h fun v2 h3 => (kL k v2 h3 fun v5 h6 => (kK (C 58 [x108, v5] h6) (fun v8 h9 => (sT140_13 C k x100 x101 x102 x103 v8 h9)))))
def sT140_15 (C : CT) (k : Nat) (x0 x100 x101 x102 x103 x107 : S) (h : SH) : Tree := (kA k 2 x107 h fun v2 h3 => (kN k x0 h3 fun v7 h8 => (kF k 60 v7 h8 fun v10 h11 => (sT140_14 C k x100 x101 x102 x103 v2 v10 h11))))
def sT140_16 (C : CT) (k : Nat) (x35 x42 : S) (h : SH) : Tree := (kF k 60 x42 h fun v2 h3 => (kF k 7 v2 h3 fun v5 h6 => (kT k 8 v5 x35 h6 fun r9 _ => (Tree.leaf (S.tup []) r9.2))))
def sT140_17 (C : CT) (k : Nat) (x18 x19 x35 x40 : S) (h : SH) : Tree := (kF k 1 x40 h fun v2 h3 => (kT k 1 v2 x19 h3 fun r6 _ => (kN k x18 r6.2 fun v8 h9 => (sT140_16 C k x35 v8 h9))))
def sT140_18 (C : CT) (k : Nat) (x17 x18 x19 x35 x38 : S) (h : SH) : Tree := (kT k 1 x38 (l64 1) h fun r3 _ => (kN k x17 r3.2 fun v5 h6 => (kF k 60 v5 h6 fun v8 h9 => (sT140_17 C k x18 x19 x35 v8 h9))))
def sT140_19 (C : CT) (k : Nat) (x16 x17 x18 x19 x35 : S) (h : SH) : Tree := (kN k x16 h fun v2 h3 => (kF k 60 v2 h3 fun v5 h6 => (kF k 0 v5 h6 fun v8 h9 => (sT140_18 C k x17 x18 x19 x35 v8 h9))))
def sT140_20 (C : CT) (k : Nat) (x16 x17 x18 x19 x27 x29 x32 : S) (h : SH) : Tree := (kB k (fun h1 => sIaa 1 4 x32 x29 (SH.pc h1)) (fun v2 h3 => (kL k v2 h3 fun v5 h6 => (kK (C 58 [x27, v5] h6) (fun v8 h9 => (sT140_19 C k x16 x17 x18 x19 v8 h9))))) h)
def sT140_21 (C : CT) (k : Nat) (x16 x17 x18 x19 x27 x28 x29 : S) (h : SH) : Tree := (kN k x28 h fun v2 h3 => (kF k 60 v2 h3 fun v5 h6 => (kF k 3 v5 h6 fun v8 h9 => (sT140_20 C k x16 x17 x18 x19 x27 x29 v8 h9))))
def sT140_22 (C : CT) (k : Nat) (x0 x7 x16 x17 x18 x19 x23 : S) (h : SH) : Tree := (kL k x23 h fun v2 h3 => (kB k (fun h6 => sIa 2 v2 x7 (SH.pc h6)) (fun v7 h8 => (kA k 2 v7 h8 fun v10 h11 => (sT140_21 C k x16 x17 x18 x19 v10 x0 x7 h11))) h3))
def sT140_23 (C : CT) (k : Nat) (x0 x2 : S) (h : SH) : Tree := (kN k x0 h fun v12 h13 => (kF k 19 v12 h13 fun v15 h16 => (kF k 2 v15 h16 fun v18 h19 => (sT140_15 C k x0 x0 x0 x0 x2 v18 h19))))
def sT140_24 (C : CT) (k : Nat) (x0 x2 : S) (h : SH) : Tree := (kI k .sub x2 (l64 2) h fun v4 h5 => (kN k x0 h5 fun v19 h20 => (kF k 19 v19 h20 fun v22 h23 => (kF k 1 v22 h23 fun v25 h26 => (sT140_22 C k x0 v4 x0 x0 x0 x2 v25 h26)))))
def sT140_25 (C : CT) (k : Nat) (x0 : S) (h : SH) : Tree := (kN k x0 h fun v4 h5 => (kF k 33 v4 h5 fun v7 h8 => (kL k v7 h8 fun v10 h11 => (sT140_9 C k x0 v10 h11))))
def sT140_26 (C : CT) (k : Nat) (x0 x2 x13 : S) (h : SH) : Tree := (kI k .eql x13 (l64 1) h fun v2 h3 => (kS v2 (fun h6 => (sT140_23 C k x0 x2 h6)) (fun h7 => (sT140_24 C k x0 x2 h7)) h3))
def sT140_27 (C : CT) (k : Nat) (x0 x11 : S) (h : SH) : Tree := (kK (C 174 [x11] h) (fun v2 h3 => (kI k .eql v2 (l64 0) h3 fun v9 h10 => (kS v9 (fun h13 => (sT140_25 C k x0 h13)) (fun h14 => (sT140_26 C k x0 v2 v2 h14)) h10))))
def sK140 (C : CT) (k : Nat) (x0 : S) (h : SH) : Tree := (kN k x0 h fun v4 h5 => (kF k 33 v4 h5 fun v7 h8 => (kL k v7 h8 fun v10 h11 => (sT140_27 C k x0 v10 h11))))
theorem sp140 (C : CT) (k : Nat) : ds C k c140 (sQ140 C k) = fun e h => (sK140 C k (e 0) h) := by kernel_rfl
def SF140 : SF := sf1 sK140
theorem so140 : SOK IP 140 SF140 := sok1 ir140 rfl (by kernel_rfl) (by kernel_rfl) fun C k x0 h => congrFun (congrFun (sp140 C k) _) h
def sQ141 (C : CT) (k : Nat) : QT := QrS k rs141
def sQ141_1 (C : CT) (k : Nat) : QT := (sQ141 C k)
def sT141_2 (C : CT) (k : Nat) (x0 x2 x8 : S) (h : SH) : Tree := (kA k 11 x8 h fun v4 h5 => (kK (C 180 [x0, v4, x2] h5) (fun v9 h10 => (Tree.leaf (S.tup []) h10))))
def sT141_3 (C : CT) (k : Nat) (x0 x2 x8 x82 x84 x87 : S) (h : SH) : Tree := (kB k (gd x82 true uS (fun h1 => sLd1 x87 h1)) (fun v2 h3 => (kB k (gd x82 true uS (fun h4 => sBin .eql x84 v2 (SH.pc h4))) (fun v5 h6 => (kB k (fun h7 => sPick x82 v5 (S.b false) (SH.pc h7)) (fun v8 h9 => (kS v8 (fun h10 => (sT141_2 C k x0 x2 x8 h10)) (fun h11 => (Tree.leaf (S.tup []) h11)) h9)) h6)) h3)) h)
def sT141_4 (C : CT) (k : Nat) (x0 x2 x8 x82 x84 : S) (h : SH) : Tree := (kB k (gd x82 true uS (fun h1 => Res.ok x0)) (fun v2 h3 => (kB k (gd x82 true uS (fun h4 => sNilc v2)) (fun v5 h6 => (kB k (gd x82 true uS (fun h7 => sFa 0 v5)) (fun v8 h9 => (sT141_3 C k x0 x2 x8 x82 x84 v8 h9)) h6)) h3)) h)
def sT141_5 (C : CT) (k : Nat) (x0 x2 x8 x78 x79 : S) (h : SH) : Tree := (kT k 11 x8 x78 h fun r3 _ => (kI k .eql x79 (l64 0) r3.2 fun v9 h10 => (kB k (gd v9 true uS (fun h13 => sFa 1 x8)) (fun v14 h15 => (kB k (gd v9 true uS (fun h16 => sLd1 v14 h16)) (fun v17 h18 => (sT141_4 C k x0 x2 x8 v9 v17 h18)) h15)) h10)))
def sT141_6 (C : CT) (k : Nat) (x0 x2 x70 : S) (h : SH) : Tree := (kX k x70 0 h fun v2 h3 => (kX k x70 1 h3 fun v5 h6 => (kB k (fun h7 => sZero z9 h7) (fun r9 _ => (sT141_5 C k x0 x2 r9.1 v2 v5 r9.2)) h6)))
def sT141_7 (C : CT) (k : Nat) (x0 x2 x74 : S) (h : SH) : Tree := (kA k 8 x74 h fun v2 h3 => (kK (C 62 [v2] h3) (fun v5 h6 => (kK (C 61 [v5] h6) (fun v8 h9 => (sT141_6 C k x0 x2 v8 h9))))))
def sK141_1 (C : CT) (k : Nat) (x0 x2 : S) (h : SH) : Tree := (kN k x0 h fun v4 h5 => (kF k 60 v4 h5 fun v7 h8 => (kF k 7 v7 h8 fun v10 h11 => (sT141_7 C k x0 x2 v10 h11))))
def sJ141_1 (C : CT) (k : Nat) : ES → SH → Tree := fun e h => (sK141_1 C k (e 0) (e 2) h)
theorem sp141_1 (C : CT) (k : Nat) : ds C k c141_1 (sQ141_1 C k) = (sJ141_1 C k) := by kernel_rfl
def sT141_8 (C : CT) (k : Nat) (x0 x2 x49 x50 : S) (h : SH) : Tree := (kF k 60 x50 h fun v2 h3 => (kF k 2 v2 h3 fun v5 h6 => (kT k 1 v5 x49 h6 fun r9 _ => (sK141_1 C k x0 x2 r9.2))))
def sT141_9 (C : CT) (k : Nat) (x0 x2 x44 x47 : S) (h : SH) : Tree := (kL k x47 h fun v2 h3 => (kI k .add v2 (S.i .u64 (.lit 1)) h3 fun v5 h6 => (kN k x44 h6 fun v8 h9 => (sT141_8 C k x0 x2 v5 v8 h9))))
def sT141_10 (C : CT) (k : Nat) (x0 x2 x65 x69 : S) (h : SH) : Tree := (kT k 1 x69 x65 h fun r3 _ => (sK141_1 C k x0 x2 r3.2))
def sT141_11 (C : CT) (k : Nat) (x0 x2 x59 x65 x66 : S) (h : SH) : Tree := (kF k 60 x66 h fun v2 h3 => (kF k 3 v2 h3 fun v5 h6 => (kB k (fun h7 => sIaa 1 4 v5 x59 (SH.pc h7)) (fun v8 h9 => (sT141_10 C k x0 x2 x65 v8 h9)) h6)))
def sT141_12 (C : CT) (k : Nat) (x0 x2 x53 x59 x63 : S) (h : SH) : Tree := (kL k x63 h fun v2 h3 => (kI k .add v2 (S.i .u64 (.lit 1)) h3 fun v5 h6 => (kN k x53 h6 fun v8 h9 => (sT141_11 C k x0 x2 x59 v5 v8 h9))))
def sT141_13 (C : CT) (k : Nat) (x0 x2 x53 x59 x60 : S) (h : SH) : Tree := (kF k 60 x60 h fun v2 h3 => (kF k 3 v2 h3 fun v5 h6 => (kB k (fun h7 => sIaa 1 4 v5 x59 (SH.pc h7)) (fun v8 h9 => (sT141_12 C k x0 x2 x53 x59 v8 h9)) h6)))
def sT141_14 (C : CT) (k : Nat) (x0 x2 x53 x57 : S) (h : SH) : Tree := (kL k x57 h fun v2 h3 => (kI k .sub v2 (l64 2) h3 fun v5 h6 => (kN k x53 h6 fun v8 h9 => (sT141_13 C k x0 x2 x53 v5 v8 h9))))
def sT141_15 (C : CT) (k : Nat) (x0 x2 : S) (h : SH) : Tree := (kN k x0 h fun v4 h5 => (kF k 60 v4 h5 fun v7 h8 => (kF k 2 v7 h8 fun v10 h11 => (sT141_9 C k x0 x2 x0 v10 h11))))
def sT141_16 (C : CT) (k : Nat) (x0 x2 : S) (h : SH) : Tree := (kN k x0 h fun v6 h7 => (kF k 60 v6 h7 fun v9 h10 => (kF k 1 v9 h10 fun v12 h13 => (sT141_14 C k x0 x2 x0 v12 h13))))
def sT141_17 (C : CT) (k : Nat) (x0 x2 x41 : S) (h : SH) : Tree := (kL k x41 h fun v2 h3 => (kI k .eql v2 (l64 1) h3 fun v5 h6 => (kS v5 (fun h7 => (sT141_15 C k x0 x2 h7)) (fun h8 => (sT141_16 C k x0 x2 h8)) h6)))
def sT141_18 (C : CT) (k : Nat) (x0 x2 x6 x35 : S) (h : SH) : Tree := (kT k 1 x35 (l64 0) h fun r3 _ => (kI k .neq x6 (l64 0) r3.2 fun v7 h8 => (kS v7 (fun h9 => (Tree.leaf (S.tup []) h9)) (fun h10 => (kN k x0 h10 fun v14 h15 => (kF k 60 v14 h15 fun v17 h18 => (kF k 1 v17 h18 fun v20 h21 => (sT141_17 C k x0 x2 v20 h21))))) h8)))
def sT141_19 (C : CT) (k : Nat) (x0 x2 x21 x28 : S) (h : SH) : Tree := (kX k x21 1 h fun v2 h3 => (kB k (fun h10 => sUn .not v2 (SH.pc h10)) (fun v11 h12 => (kS v11 (fun h13 => (Tree.leaf (S.tup []) h13)) (fun h14 => (kN k x0 h14 fun v18 h19 => (kF k 60 v18 h19 fun v21 h22 => (kF k 0 v21 h22 fun v24 h25 => (sT141_18 C k x0 x2 x28 v24 h25))))) h12)) h3))
def sT141_20 (C : CT) (k : Nat) (x0 x2 x25 : S) (h : SH) : Tree := (kA k 8 x25 h fun v2 h3 => (kK (C 60 [v2] h3) (fun v5 h6 => (kX k v5 0 h6 fun v10 h11 => (sT141_19 C k x0 x2 v5 v10 h11)))))
def sT141_21 (C : CT) (k : Nat) (x0 x2 x17 x18 : S) (h : SH) : Tree := (kF k 60 x18 h fun v2 h3 => (kF k 7 v2 h3 fun v5 h6 => (kT k 8 v5 x17 h6 fun r9 _ => (kN k x0 r9.2 fun v13 h14 => (kF k 60 v13 h14 fun v16 h17 => (kF k 7 v16 h17 fun v19 h20 => (sT141_20 C k x0 x2 v19 h20)))))))
def sT141_22 (C : CT) (k : Nat) (x0 x1 x2 x10 x14 : S) (h : SH) : Tree := (kA k 8 x14 h fun v2 h3 => (kK (C 59 [v2, x1] h3) (fun v7 h8 => (kN k x10 h8 fun v10 h11 => (sT141_21 C k x0 x2 v7 v10 h11)))))
def sK141 (C : CT) (k : Nat) (x0 x1 x2 : S) (h : SH) : Tree := (kN k x0 h fun v6 h7 => (kF k 60 v6 h7 fun v9 h10 => (kF k 7 v9 h10 fun v12 h13 => (sT141_22 C k x0 x1 x2 x0 v12 h13))))
theorem sp141 (C : CT) (k : Nat) : ds C k c141 (sQ141 C k) = fun e h => (sK141 C k (e 0) (e 1) (e 2) h) := by
  refine Eq.trans (sseq_eq (sseq_eq (sseq_eq (sseq_eq (sseq_eq (sseq_eq (sp141_1 C k) rfl) rfl) rfl) rfl) rfl) rfl) ?_
  kernel_rfl
def SF141 : SF := sf3 sK141
theorem so141 : SOK IP 141 SF141 := sok3 ir141 rfl (by kernel_rfl) (by kernel_rfl) fun C k x0 x1 x2 h => congrFun (congrFun (sp141 C k) _) h
def sQ142 (C : CT) (k : Nat) : QT := QrS k rs142
def sT142_1 (C : CT) (k : Nat) (x0 x8 x52 : S) (h : SH) : Tree := (kK (C 177 [x52] h) (fun v2 h3 => (kA k 11 x8 h3 fun v7 h8 => (kK (C 181 [x0, v7] h8) (fun v10 h11 => (Tree.leaf (S.tup []) h11))))))
def sT142_2 (C : CT) (k : Nat) (x0 x2 x8 x9 : S) (h : SH) : Tree := (kF k 6 x8 h fun v6 h7 => (kL k v6 h7 fun v9 h10 => (kK (C 182 [x0, x9, v9, x2] h10) (fun v14 h15 => (Tree.leaf (S.tup []) h15)))))
def sT142_3 (C : CT) (k : Nat) (x0 x2 x8 x69 x71 x72 : S) (h : SH) : Tree := (kL k x72 h fun v2 h3 => (kK (C 176 [x69, x71, v2] h3) (fun v5 h6 => (kB k (fun h11 => sEqz true .p v5 (S.p none) (SH.pc h11)) (fun v12 h13 => (kS v12 (fun h14 => (sT142_2 C k x0 x2 x8 v5 h14)) (fun h15 => (Tree.leaf (S.tup []) h15)) h13)) h6))))
def sT142_4 (C : CT) (k : Nat) (x0 x2 x8 x69 : S) (h : SH) : Tree := (kF k 3 x8 h fun v2 h3 => (kL k v2 h3 fun v5 h6 => (kF k 4 x8 h6 fun v8 h9 => (sT142_3 C k x0 x2 x8 x69 v5 v8 h9))))
def sT142_5 (C : CT) (k : Nat) (x0 x2 x8 x64 : S) (h : SH) : Tree := (kK (C 177 [x64] h) (fun v2 h3 => (kN k x0 h3 fun v7 h8 => (kF k 29 v7 h8 fun v10 h11 => (kL k v10 h11 fun v13 h14 => (sT142_4 C k x0 x2 x8 v13 h14))))))
def sT142_6 (C : CT) (k : Nat) (x44 : S) (h : SH) : Tree := (kK (C 183 [x44] h) (fun v2 h3 => (Tree.leaf (S.tup []) h3)))
def sT142_7 (C : CT) (k : Nat) (x0 x2 x8 : S) (h : SH) : Tree := (kN k x0 h fun v4 h5 => (kF k 33 v4 h5 fun v7 h8 => (kL k v7 h8 fun v10 h11 => (sT142_5 C k x0 x2 x8 v10 h11))))
def sT142_8 (C : CT) (k : Nat) (x0 : S) (h : SH) : Tree := (kN k x0 h fun v4 h5 => (kF k 33 v4 h5 fun v7 h8 => (kL k v7 h8 fun v10 h11 => (sT142_6 C k v10 h11))))
def sT142_9 (C : CT) (k : Nat) (x0 x8 : S) (h : SH) : Tree := (kN k x0 h fun v4 h5 => (kF k 33 v4 h5 fun v7 h8 => (kL k v7 h8 fun v10 h11 => (sT142_1 C k x0 x8 v10 h11))))
def sT142_10 (C : CT) (k : Nat) (x0 x2 x8 : S) (h : SH) : Tree := (kF k 0 x8 h fun v2 h3 => (kL k v2 h3 fun v5 h6 => (kI k .eql v5 (l64 1) h6 fun v8 h9 => (kS v8 (fun h12 => (sT142_7 C k x0 x2 x8 h12)) (fun h13 => (sT142_8 C k x0 h13)) h9))))
def sT142_11 (C : CT) (k : Nat) (x0 x2 x6 x39 : S) (h : SH) : Tree := (kA k 11 x39 h fun v2 h3 => (kB k (fun h4 => sZero z9 h4) (fun r6 _ => (kT k 11 r6.1 v2 r6.2 fun r9 _ => (kI k .eql x6 (l64 0) r9.2 fun v13 h14 => (kS v13 (fun h17 => (sT142_9 C k x0 r6.1 h17)) (fun h18 => (sT142_10 C k x0 x2 r6.1 h18)) h14)))) h3))
def sT142_12 (C : CT) (k : Nat) (x0 x2 x6 x35 : S) (h : SH) : Tree := (kT k 1 x35 (l64 0) h fun r3 _ => (kN k x0 r3.2 fun v7 h8 => (kF k 60 v7 h8 fun v10 h11 => (kF k 24 v10 h11 fun v13 h14 => (sT142_11 C k x0 x2 x6 v13 h14)))))
def sT142_13 (C : CT) (k : Nat) (x0 x2 x21 x28 : S) (h : SH) : Tree := (kX k x21 1 h fun v2 h3 => (kB k (fun h10 => sUn .not v2 (SH.pc h10)) (fun v11 h12 => (kS v11 (fun h13 => (Tree.leaf (S.tup []) h13)) (fun h14 => (kN k x0 h14 fun v18 h19 => (kF k 60 v18 h19 fun v21 h22 => (kF k 0 v21 h22 fun v24 h25 => (sT142_12 C k x0 x2 x28 v24 h25))))) h12)) h3))
def sT142_14 (C : CT) (k : Nat) (x0 x2 x25 : S) (h : SH) : Tree := (kA k 9 x25 h fun v2 h3 => (kK (C 52 [v2] h3) (fun v5 h6 => (kX k v5 0 h6 fun v10 h11 => (sT142_13 C k x0 x2 v5 v10 h11)))))
def sT142_15 (C : CT) (k : Nat) (x0 x2 x17 x18 : S) (h : SH) : Tree := (kF k 60 x18 h fun v2 h3 => (kF k 15 v2 h3 fun v5 h6 => (kT k 9 v5 x17 h6 fun r9 _ => (kN k x0 r9.2 fun v13 h14 => (kF k 60 v13 h14 fun v16 h17 => (kF k 15 v16 h17 fun v19 h20 => (sT142_14 C k x0 x2 v19 h20)))))))
def sT142_16 (C : CT) (k : Nat) (x0 x1 x2 x10 x14 : S) (h : SH) : Tree := (kA k 9 x14 h fun v2 h3 => (kK (C 51 [v2, x1] h3) (fun v7 h8 => (kN k x10 h8 fun v10 h11 => (sT142_15 C k x0 x2 v7 v10 h11)))))
def sK142 (C : CT) (k : Nat) (x0 x1 x2 : S) (h : SH) : Tree := (kN k x0 h fun v6 h7 => (kF k 60 v6 h7 fun v9 h10 => (kF k 15 v9 h10 fun v12 h13 => (sT142_16 C k x0 x1 x2 x0 v12 h13))))
theorem sp142 (C : CT) (k : Nat) : ds C k c142 (sQ142 C k) = fun e h => (sK142 C k (e 0) (e 1) (e 2) h) := by kernel_rfl
def SF142 : SF := sf3 sK142
theorem so142 : SOK IP 142 SF142 := sok3 ir142 rfl (by kernel_rfl) (by kernel_rfl) fun C k x0 x1 x2 h => congrFun (congrFun (sp142 C k) _) h
def sQ143 (C : CT) (k : Nat) : QT := QrS k rs143
def sT143_1 (C : CT) (k : Nat) (x2 x36 x41 x46 x51 x55 : S) (h : SH) : Tree := (kA k 5 x55 h fun v2 h3 => (kK (C 186 [x36, x41, x46, x51, v2, x2] h3) (fun v7 h8 => (Tree.leaf (S.tup []) h8))))
def sT143_2 (C : CT) (k : Nat) (x2 x36 x41 x46 x51 x52 : S) (h : SH) : Tree := (kN k x52 h fun v2 h3 => (kF k 60 v2 h3 fun v5 h6 => (kF k 35 v5 h6 fun v8 h9 => (sT143_1 C k x2 x36 x41 x46 x51 v8 h9))))
def sT143_3 (C : CT) (k : Nat) (x0 x2 x36 x41 x46 x48 : S) (h : SH) : Tree := (kF k 60 x48 h fun v2 h3 => (kF k 42 v2 h3 fun v5 h6 => (kL k v5 h6 fun v8 h9 => (sT143_2 C k x2 x36 x41 x46 v8 x0 h9))))
def sT143_4 (C : CT) (k : Nat) (x0 x2 x36 x41 x44 : S) (h : SH) : Tree := (kF k 41 x44 h fun v2 h3 => (kL k v2 h3 fun v5 h6 => (kN k x0 h6 fun v10 h11 => (sT143_3 C k x0 x2 x36 x41 v5 v10 h11))))
def sT143_5 (C : CT) (k : Nat) (x0 x2 x36 x40 : S) (h : SH) : Tree := (kL k x40 h fun v2 h3 => (kN k x0 h3 fun v7 h8 => (kF k 60 v7 h8 fun v10 h11 => (sT143_4 C k x0 x2 x36 v2 v10 h11))))
def sT143_6 (C : CT) (k : Nat) (x0 x2 : S) (h : SH) : Tree := (kN k x0 h fun v6 h7 => (kF k 60 v6 h7 fun v9 h10 => (kF k 40 v9 h10 fun v12 h13 => (sT143_5 C k x0 x2 x0 v12 h13))))
def sT143_7 (C : CT) (k : Nat) (x0 x2 x6 x33 : S) (h : SH) : Tree := (kT k 1 x33 (l64 0) h fun r3 _ => (kI k .eql x6 (l64 0) r3.2 fun v7 h8 => (kS v7 (fun h9 => (sT143_6 C k x0 x2 h9)) (fun h10 => (Tree.leaf (S.tup []) h10)) h8)))
def sT143_8 (C : CT) (k : Nat) (x0 x2 x19 x26 : S) (h : SH) : Tree := (kX k x19 1 h fun v2 h3 => (kB k (fun h10 => sUn .not v2 (SH.pc h10)) (fun v11 h12 => (kS v11 (fun h13 => (Tree.leaf (S.tup []) h13)) (fun h14 => (kN k x0 h14 fun v18 h19 => (kF k 60 v18 h19 fun v21 h22 => (kF k 0 v21 h22 fun v24 h25 => (sT143_7 C k x0 x2 x26 v24 h25))))) h12)) h3))
def sT143_9 (C : CT) (k : Nat) (x0 x2 x23 : S) (h : SH) : Tree := (kA k 5 x23 h fun v2 h3 => (kK (C 185 [v2] h3) (fun v5 h6 => (kX k v5 0 h6 fun v10 h11 => (sT143_8 C k x0 x2 v5 v10 h11)))))
def sT143_10 (C : CT) (k : Nat) (x0 x2 x15 x16 : S) (h : SH) : Tree := (kF k 60 x16 h fun v2 h3 => (kF k 35 v2 h3 fun v5 h6 => (kT k 5 v5 x15 h6 fun r9 _ => (kN k x0 r9.2 fun v13 h14 => (kF k 60 v13 h14 fun v16 h17 => (kF k 35 v16 h17 fun v19 h20 => (sT143_9 C k x0 x2 v19 h20)))))))
def sT143_11 (C : CT) (k : Nat) (x0 x1 x2 x8 x12 : S) (h : SH) : Tree := (kA k 5 x12 h fun v2 h3 => (kK (C 184 [v2, x1] h3) (fun v7 h8 => (kN k x8 h8 fun v10 h11 => (sT143_10 C k x0 x2 v7 v10 h11)))))
def sK143 (C : CT) (k : Nat) (x0 x1 x2 : S) (h : SH) : Tree := (kN k x0 h fun v6 h7 => (kF k 60 v6 h7 fun v9 h10 => (kF k 35 v9 h10 fun v12 h13 => (sT143_11 C k x0 x1 x2 x0 v12 h13))))
theorem sp143 (C : CT) (k : Nat) : ds C k c143 (sQ143 C k) = fun e h => (sK143 C k (e 0) (e 1) (e 2) h) := by kernel_rfl
def SF143 : SF := sf3 sK143
theorem so143 : SOK IP 143 SF143 := sok3 ir143 rfl (by kernel_rfl) (by kernel_rfl) fun C k x0 x1 x2 h => congrFun (congrFun (sp143 C k) _) h
def sQ144 (C : CT) (k : Nat) : QT := QrS k rs144
def sT144_1 (C : CT) (k : Nat) (x0 x5 x59 : S) (h : SH) : Tree := (kF k 0 x59 h fun v2 h3 => (kT k 1 v2 (l64 7) h3 fun r6 _ => (kN k x0 r6.2 fun v12 h13 => (kF k 28 v12 h13 fun v15 h16 => (kL k v15 h16 fun v18 h19 => (kN k x5 h19 fun v23 h24 => (kF k 0 v23 h24 fun v26 h27 => (kF k 3 v26 h27 fun v29 h30 => (kL k v29 h30 fun v32 h33 => (kK (C 145 [v18, v32] h33) (fun v35 h36 => (kN k x5 h36 fun v40 h41 => (kF k 0 v40 h41 fun v43 h44 => (kF k 4 v43 h44 fun v46 h47 => (kL k v46 h47 fun v49 h50 => (kN k x0 h50 fun v54 h55 => (kF k 28 v54 h55 fun v57 h58 => (kL k v57 h58 fun v60 h61 => (kK (C 190 [v60] h61) (fun v63 h64 => (kK (C 189 [v35, v49, v63] h64) (fun v66 h67 => (kN k x0 h67 fun v69 h70 => (kF k 35 v69 h70 fun v72 h73 => (kF k 20 v72 h73 fun v75 h76 => (kT k 5 v75 v66 h76 fun r79 _ => (kC (stdyS false 1 v46 h33 h36) (kC (stdyS false 1 v46 h61 h64) (kC (stdyS false 1 v57 h33 h36) (Tree.leaf (S.tup []) r79.2))))))))))))))))))))))))))))))
def sT144_2 (C : CT) (k : Nat) (x0 x5 x53 x54 x57 : S) (h : SH) : Tree := (kT k 1 x57 x54 h fun r3 _ => (kN k x53 r3.2 fun v5 h6 => (kF k 35 v5 h6 fun v8 h9 => (sT144_1 C k x0 x5 v8 h9))))
def sT144_3 (C : CT) (k : Nat) (x0 x1 x5 : S) (h : SH) : Tree := (kK (C 193 [x0, x5, x1] h) (fun v8 h9 => (Tree.leaf (S.tup []) h9)))
def sT144_4 (C : CT) (k : Nat) (x0 x1 : S) (h : SH) : Tree := (kK (C 188 [x0, (l64 1), (S.i .u32 (.lit 0)), x1] h) (fun v6 h7 => (Tree.leaf (S.tup []) h7)))
def sT144_5 (C : CT) (k : Nat) (x0 x1 x5 : S) (h : SH) : Tree := (kK (C 192 [x0, x5, x1] h) (fun v8 h9 => (Tree.leaf (S.tup []) h9)))
def sT144_6 (C : CT) (k : Nat) (x0 x1 x4 x5 : S) (h : SH) : Tree := (kF k 0 x4 h fun v2 h3 => (kL k v2 h3 fun v5 h6 => (kI k .eql v5 (l64 4) h6 fun v8 h9 => (kS v8 (fun h12 => (sT144_3 C k x0 x1 x5 h12)) (fun h13 => (sT144_4 C k x0 x1 h13)) h9))))
def sT144_7 (C : CT) (k : Nat) (x0 x1 x5 : S) (h : SH) : Tree := (kK (C 191 [x0, x5, x1] h) (fun v8 h9 => (Tree.leaf (S.tup []) h9)))
def sT144_8 (C : CT) (k : Nat) (x0 x1 x4 x5 : S) (h : SH) : Tree := (kF k 0 x4 h fun v2 h3 => (kL k v2 h3 fun v5 h6 => (kI k .eql v5 (l64 3) h6 fun v8 h9 => (kS v8 (fun h12 => (sT144_5 C k x0 x1 x5 h12)) (fun h13 => (sT144_6 C k x0 x1 x4 x5 h13)) h9))))
def sT144_9 (C : CT) (k : Nat) (x0 x5 : S) (h : SH) : Tree := (kN k x0 h fun v8 h9 => (kF k 35 v8 h9 fun v11 h12 => (kF k 10 v11 h12 fun v14 h15 => (sT144_2 C k x0 x5 x0 x5 v14 h15))))
def sT144_10 (C : CT) (k : Nat) (x0 x1 x4 x5 : S) (h : SH) : Tree := (kF k 0 x4 h fun v2 h3 => (kL k v2 h3 fun v5 h6 => (kI k .eql v5 (l64 2) h6 fun v8 h9 => (kS v8 (fun h12 => (sT144_7 C k x0 x1 x5 h12)) (fun h13 => (sT144_8 C k x0 x1 x4 x5 h13)) h9))))
def sT144_11 (C : CT) (k : Nat) (x0 x1 : S) (h : SH) : Tree := (kK (C 188 [x0, (l64 5), (S.i .u32 (.lit 0)), x1] h) (fun v6 h7 => (Tree.leaf (S.tup []) h7)))
def sT144_12 (C : CT) (k : Nat) (x0 x1 x4 x5 : S) (h : SH) : Tree := (kF k 0 x4 h fun v2 h3 => (kL k v2 h3 fun v5 h6 => (kI k .eql v5 (l64 1) h6 fun v8 h9 => (kS v8 (fun h12 => (sT144_9 C k x0 x5 h12)) (fun h13 => (sT144_10 C k x0 x1 x4 x5 h13)) h9))))
def sT144_13 (C : CT) (k : Nat) (x0 x1 x4 x5 x38 x41 : S) (h : SH) : Tree := (kB k (gd x38 true uS (fun h1 => sLd1 x41 h1)) (fun v2 h3 => (kB k (gd x38 true uS (fun h4 => sBin .neq v2 (l64 0) (SH.pc h4))) (fun v5 h6 => (kB k (fun h7 => sPick x38 v5 (S.b false) (SH.pc h7)) (fun v8 h9 => (kS v8 (fun h12 => (sT144_11 C k x0 x1 h12)) (fun h13 => (sT144_12 C k x0 x1 x4 x5 h13)) h9)) h6)) h3)) h)
def sT144_14 (C : CT) (k : Nat) (x0 x1 x4 x5 x38 : S) (h : SH) : Tree := (kB k (gd x38 true uS (fun h1 => Res.ok x5)) (fun v2 h3 => (kB k (gd x38 true uS (fun h4 => sNilc v2)) (fun v5 h6 => (kB k (gd x38 true uS (fun h7 => sFa 12 v5)) (fun v8 h9 => (sT144_13 C k x0 x1 x4 x5 x38 v8 h9)) h6)) h3)) h)
def sT144_15 (C : CT) (k : Nat) (x0 x1 : S) (h : SH) : Tree := (kK (C 188 [x0, (l64 6), (S.i .u32 (.lit 0)), x1] h) (fun v6 h7 => (Tree.leaf (S.tup []) h7)))
def sT144_16 (C : CT) (k : Nat) (x0 x1 x4 x5 : S) (h : SH) : Tree := (kF k 0 x4 h fun v2 h3 => (kL k v2 h3 fun v5 h6 => (kI k .eql v5 (l64 1) h6 fun v8 h9 => (sT144_14 C k x0 x1 x4 x5 v8 h9))))
def sT144_17 (C : CT) (k : Nat) (x0 x1 : S) (h : SH) : Tree := (kK (C 187 [x0, x1] h) (fun v6 h7 => (Tree.leaf (S.tup []) h7)))
def sT144_18 (C : CT) (k : Nat) (x0 x1 x4 x5 : S) (h : SH) : Tree := (kB k (fun h3 => sEqz false .p x5 (S.p none) (SH.pc h3)) (fun v4 h5 => (kS v4 (fun h8 => (sT144_15 C k x0 x1 h8)) (fun h9 => (sT144_16 C k x0 x1 x4 x5 h9)) h5)) h)
def sT144_19 (C : CT) (k : Nat) (x0 x1 x4 x14 : S) (h : SH) : Tree := (kF k 6 x4 h fun v2 h3 => (kL k v2 h3 fun v5 h6 => (kK (C 54 [x14, v5] h6) (fun v8 h9 => (kF k 0 x4 h9 fun v13 h14 => (kL k v13 h14 fun v16 h17 => (kI k .eql v16 (l64 0) h17 fun v19 h20 => (kS v19 (fun h23 => (sT144_17 C k x0 x1 h23)) (fun h24 => (sT144_18 C k x0 x1 x4 v8 h24)) h20))))))))
def sT144_20 (C : CT) (k : Nat) (x0 x1 x9 : S) (h : SH) : Tree := (kA k 7 x9 h fun v2 h3 => (kB k (fun h4 => sZero z13 h4) (fun r6 _ => (kT k 7 r6.1 v2 r6.2 fun r9 _ => (kN k x0 r9.2 fun v13 h14 => (kF k 29 v13 h14 fun v16 h17 => (kL k v16 h17 fun v19 h20 => (sT144_19 C k x0 x1 r6.1 v19 h20)))))) h3))
def sK144 (C : CT) (k : Nat) (x0 x1 : S) (h : SH) : Tree := (kN k x0 h fun v4 h5 => (kF k 35 v4 h5 fun v7 h8 => (kF k 1 v7 h8 fun v10 h11 => (sT144_20 C k x0 x1 v10 h11))))
theorem sp144 (C : CT) (k : Nat) : ds C k c144 (sQ144 C k) = fun e h => (sK144 C k (e 0) (e 1) h) := by kernel_rfl
def SF144 : SF := sf2 sK144
theorem so144 : SOK IP 144 SF144 := sok2 ir144 rfl (by kernel_rfl) (by kernel_rfl) fun C k x0 x1 h => congrFun (congrFun (sp144 C k) _) h
def sQ145 (C : CT) (k : Nat) : QT := QrS k rs145
def sT145_1 (C : CT) (k : Nat) (x1 x23 : S) (h : SH) : Tree := (kL k x23 h fun v2 h3 => (kI k .add v2 x1 h3 fun v7 h8 => (Tree.leaf v7 h8)))
def sT145_2 (C : CT) (k : Nat) (x0 x1 x11 x12 x16 : S) (h : SH) : Tree := (kB k (gd x11 false uS (fun h1 => sLd1 x16 h1)) (fun v2 h3 => (kB k (gd x11 false uS (fun h4 => sBin .geq x12 v2 (SH.pc h4))) (fun v5 h6 => (kB k (fun h7 => sPick x11 (S.b true) v5 (SH.pc h7)) (fun v8 h9 => (kS v8 (fun h10 => (Tree.leaf (S.i .i64 (.lit (-1))) h10)) (fun h11 => (kN k x0 h11 fun v17 h18 => (kF k 0 v17 h18 fun v20 h21 => (kF k 0 v20 h21 fun v23 h24 => (sT145_1 C k x1 v23 h24))))) h9)) h6)) h3)) h)
def sT145_3 (C : CT) (k : Nat) (x0 x1 x11 x12 x13 : S) (h : SH) : Tree := (kB k (gd x11 false uS (fun h1 => sNilc x13)) (fun v2 h3 => (kB k (gd x11 false uS (fun h4 => sFa 0 v2)) (fun v5 h6 => (kB k (gd x11 false uS (fun h7 => sFa 1 v5)) (fun v8 h9 => (sT145_2 C k x0 x1 x11 x12 v8 h9)) h6)) h3)) h)
def sT145_4 (C : CT) (k : Nat) (x0 x1 x7 x9 : S) (h : SH) : Tree := (kB k (fun h1 => sPick x7 (S.b true) x9 (SH.pc h1)) (fun v2 h3 => (kB k (gd v2 false uS (fun h6 => Res.ok x1)) (fun v7 h8 => (kB k (gd v2 false uS (fun h9 => Res.ok x0)) (fun v10 h11 => (sT145_3 C k x0 x1 v2 v7 v10 h11)) h8)) h3)) h)
def sK145 (C : CT) (k : Nat) (x0 x1 : S) (h : SH) : Tree := (kB k (fun h5 => sEqz false .p x0 (S.p none) (SH.pc h5)) (fun v6 h7 => (kB k (gd v6 false uS (fun h10 => Res.ok x1)) (fun v11 h12 => (kB k (gd v6 false uS (fun h13 => sBin .lss v11 (l64 0) (SH.pc h13))) (fun v14 h15 => (sT145_4 C k x0 x1 v6 v14 h15)) h12)) h7)) h)
theorem sp145 (C : CT) (k : Nat) : ds C k c145 (sQ145 C k) = fun e h => (sK145 C k (e 0) (e 1) h) := by kernel_rfl
def SF145 : SF := sf2 sK145
theorem so145 : SOK IP 145 SF145 := sok2 ir145 rfl (by kernel_rfl) (by kernel_rfl) fun C k x0 x1 h => congrFun (congrFun (sp145 C k) _) h
def sQ146 (C : CT) (k : Nat) : QT := QrS k rs146
def sT146_1 (C : CT) (k : Nat) (x175 : S) (h : SH) : Tree := (kF k 0 x175 h fun v2 h3 => (kT k 1 v2 (l64 4) h3 fun r6 _ => (Tree.leaf (S.tup []) r6.2)))
def sT146_2 (C : CT) (k : Nat) (x163 x170 x173 : S) (h : SH) : Tree := (kT k 9 x173 x170 h fun r3 _ => (kN k x163 r3.2 fun v5 h6 => (kF k 35 v5 h6 fun v8 h9 => (sT146_1 C k v8 h9))))
def sT146_3 (C : CT) (k : Nat) (x162 x163 x170 : S) (h : SH) : Tree := (kN k x162 h fun v2 h3 => (kF k 35 v2 h3 fun v5 h6 => (kF k 11 v5 h6 fun v8 h9 => (sT146_2 C k x163 x170 v8 h9))))
def sT146_4 (C : CT) (k : Nat) (x14 x162 x163 x167 : S) (h : SH) : Tree := (kA k 2 x167 h fun v2 h3 => (kA k 3 x14 h3 fun v5 h6 => (kK (C 178 [v2, v5] h6) (fun v8 h9 => (sT146_3 C k x162 x163 v8 h9)))))
def sT146_5 (C : CT) (k : Nat) (x0 x157 x160 : S) (h : SH) : Tree := (kX k x157 1 h fun v2 h3 => (kB k (fun h4 => sZero z20 h4) (fun r6 _ => (kT k 3 r6.1 x160 r6.2 fun r9 _ => (kN k x0 r9.2 fun v19 h20 => (kF k 19 v19 h20 fun v22 h23 => (kF k 4 v22 h23 fun v25 h26 => (sT146_4 C k r6.1 x0 x0 v25 h26)))))) h3))
def sT146_6 (C : CT) (k : Nat) (x0 x142 x155 : S) (h : SH) : Tree := (kX k x142 1 h fun v2 h3 => (kB k (fun h4 => sZero z9 h4) (fun r6 _ => (kT k 11 r6.1 x155 r6.2 fun r9 _ => (kA k 11 r6.1 r9.2 fun v13 h14 => (kK (C 49 [v13] h14) (fun v16 h17 => (kX k v16 0 h17 fun v21 h22 => (sT146_5 C k x0 v16 v21 h22))))))) h3))
def sT146_7 (C : CT) (k : Nat) (x0 x144 x148 x150 x152 : S) (h : SH) : Tree := (kB k (fun h1 => sBld z10 [(0, 1, x144), (1, 1, x148), (2, 1, x150), (3, 1, x152), (4, 1, (l64 1))]) (fun v2 h3 => (kK (C 204 [v2] h3) (fun v5 h6 => (kX k v5 0 h6 fun v10 h11 => (sT146_6 C k x0 v5 v10 h11))))) h)
def sT146_8 (C : CT) (k : Nat) (x0 x10 x144 x148 x149 : S) (h : SH) : Tree := (kL k x149 h fun v2 h3 => (kF k 4 x10 h3 fun v5 h6 => (kL k v5 h6 fun v8 h9 => (sT146_7 C k x0 x144 x148 v2 v8 h9))))
def sT146_9 (C : CT) (k : Nat) (x0 x10 x144 x146 : S) (h : SH) : Tree := (kF k 0 x146 h fun v2 h3 => (kL k v2 h3 fun v5 h6 => (kF k 3 x10 h6 fun v8 h9 => (sT146_8 C k x0 x10 x144 v5 v8 h9))))
def sT146_10 (C : CT) (k : Nat) (x0 x6 x10 x138 x141 : S) (h : SH) : Tree := (kT k 1 x141 x138 h fun r3 _ => (kF k 5 x6 r3.2 fun v5 h6 => (kL k v5 h6 fun v8 h9 => (kN k x0 h9 fun v13 h14 => (sT146_9 C k x0 x10 v8 v13 h14)))))
def sT146_11 (C : CT) (k : Nat) (x0 x6 x10 x11 x134 x135 : S) (h : SH) : Tree := (kK (C 203 [x134, x135] h) (fun v2 h3 => (kN k x0 h3 fun v9 h10 => (kF k 35 v9 h10 fun v12 h13 => (kF k 10 v12 h13 fun v15 h16 => (sT146_10 C k x0 x6 x10 x11 v15 h16))))))
def sT146_12 (C : CT) (k : Nat) (x0 x6 x7 x8 x61 x65 x69 : S) (h : SH) : Tree := (kL k x69 h fun v2 h3 => (kK (C 145 [x65, v2] h3) (fun v5 h6 => (kK (C 43 [x61, v5, x8] h6) (fun v10 h11 => (kN k x0 h11 fun v15 h16 => (kF k 0 v15 h16 fun v18 h19 => (kL k v18 h19 fun v21 h22 => (kF k 1 x6 h22 fun v24 h25 => (kL k v24 h25 fun v27 h28 => (kN k x0 h28 fun v32 h33 => (kF k 35 v32 h33 fun v35 h36 => (kF k 8 v35 h36 fun v38 h39 => (kL k v38 h39 fun v41 h42 => (kK (C 198 [x8] h42) (fun v46 h47 => (kF k 6 x6 h47 fun v49 h50 => (kL k v49 h50 fun v52 h53 => (kF k 4 x6 h53 fun v55 h56 => (kL k v55 h56 fun v58 h59 => (kF k 2 x6 h59 fun v63 h64 => (kL k v63 h64 fun v66 h67 => (kF k 3 x6 h67 fun v69 h70 => (kL k v69 h70 fun v72 h73 => (kB k (fun h74 => sBld z9 [(0, 1, (l64 1)), (1, 1, v21), (2, 1, v27), (3, 1, v41), (4, 1, v46), (5, 1, v52), (7, 1, v58), (8, 1, x7), (9, 1, v66), (10, 1, v72)]) (fun v75 h76 => (kB k (fun h77 => sZero z9 h77) (fun r79 _ => (kT k 11 r79.1 v75 r79.2 fun r82 _ => (kC (stdyS false 1 v18 h42 h47) (kC (stdyS false 1 v24 h42 h47) (kC (stdyS false 1 v38 h42 h47) (kC (stdyS false 1 v49 h42 h47) (kC (stdyS false 1 v55 h42 h47) (kC (stdyS false 1 v63 h42 h47) (kC (stdyS false 1 v69 h42 h47) (kA k 11 r79.1 r82.2 fun v84 h85 => (kF k 5 x6 h85 fun v87 h88 => (kL k v87 h88 fun v90 h91 => (kA k 11 r79.1 h91 fun v93 h94 => (kF k 5 x6 h94 fun v96 h97 => (kL k v96 h97 fun v99 h100 => (kN k x0 h100 fun v104 h105 => (kF k 1 v104 h105 fun v107 h108 => (kF k 10 v107 h108 fun v110 h111 => (kA k 2 v110 h111 fun v113 h114 => (kK (C 199 [v93, v99, v113] h114) (fun v116 h117 => (kK (C 200 [] h117) (fun v119 h120 => (kB k (fun h121 => sBld z8 [(0, 11, v84), (11, 1, v90), (14, 1, v116), (18, 1, v119), (19, 1, (S.b true))]) (fun v122 h123 => (kB k (fun h124 => sBox v122 h124) (fun r126 _ => (kC (stdyS true 11 r79.1 h114 h117) (kC (stdyS true 11 r79.1 h117 h120) (kC (stdyS false 1 v87 h114 h117) (kC (stdyS false 1 v87 h117 h120) (kN k x0 r126.2 fun v134 h135 => (kF k 1 v134 h135 fun v137 h138 => (kF k 3 v137 h138 fun v140 h141 => (kL k v140 h141 fun v143 h144 => (kK (C 201 [v143] h144) (fun v146 h147 => (kN k x0 h147 fun v151 h152 => (kF k 1 v151 h152 fun v154 h155 => (kF k 3 v154 h155 fun v157 h158 => (kL k v157 h158 fun v160 h161 => (kK (C 154 [v160] h161) (fun v163 h164 => (kK (C 202 [v146, v163] h164) (fun v166 h167 => (kX k v166 0 h167 fun v171 h172 => (kX k v166 1 h172 fun v174 h175 => (kN k r126.1 h175 fun v177 h178 => (kF k 15 v177 h178 fun v180 h181 => (kT k 3 v180 v171 h181 fun r184 _ => (kC (stdyS false 1 v157 h144 h147) (kN k x0 r184.2 fun v188 h189 => (kF k 29 v188 h189 fun v191 h192 => (kL k v191 h192 fun v194 h195 => (sT146_11 C k x0 x6 r79.1 r126.1 v194 r126.1 h195))))))))))))))))))))))))))))) h123)) h120)))))))))))))))))))))))) h76)) h73)))))))))))))))))))))))))
def sT146_13 (C : CT) (k : Nat) (x0 x6 x7 x8 x61 x65 x66 : S) (h : SH) : Tree := (kN k x66 h fun v2 h3 => (kF k 35 v2 h3 fun v5 h6 => (kF k 8 v5 h6 fun v8 h9 => (sT146_12 C k x0 x6 x7 x8 x61 x65 v8 h9))))
def sT146_14 (C : CT) (k : Nat) (x0 x2 x54 : S) (h : SH) : Tree := (kL k x54 h fun v2 h3 => (kK (C 197 [v2, x2, (S.b false)] h3) (fun v7 h8 => (kK (C 188 [x0, (l64 6), (S.i .u32 (.lit 0)), x2] h8) (fun v14 h15 => (Tree.leaf (S.tup []) h15))))))
def sT146_15 (C : CT) (k : Nat) (x0 x2 x6 x51 : S) (h : SH) : Tree := (kF k 1 x6 h fun v2 h3 => (kL k v2 h3 fun v5 h6 => (kB k (fun h7 => sIa 1 x51 v5 (SH.pc h7)) (fun v8 h9 => (sT146_14 C k x0 x2 v8 h9)) h6)))
def sT146_16 (C : CT) (k : Nat) (x0 x2 x6 x44 : S) (h : SH) : Tree := (kF k 1 x6 h fun v2 h3 => (kL k v2 h3 fun v5 h6 => (kK (C 196 [x44, v5] h6) (fun v8 h9 => (kN k x0 h9 fun v13 h14 => (kF k 31 v13 h14 fun v16 h17 => (kL k v16 h17 fun v19 h20 => (sT146_15 C k x0 x2 x6 v19 h20))))))))
def sT146_17 (C : CT) (k : Nat) (x0 x2 x6 : S) (h : SH) : Tree := (kN k x0 h fun v4 h5 => (kF k 30 v4 h5 fun v7 h8 => (kL k v7 h8 fun v10 h11 => (sT146_16 C k x0 x2 x6 v10 h11))))
def sT146_18 (C : CT) (k : Nat) (x0 x1 x2 x19 : S) (h : SH) : Tree := (kA k 7 x19 h fun v2 h3 => (kB k (fun h4 => sZero z13 h4) (fun r6 _ => (kT k 7 r6.1 v2 r6.2 fun r9 _ => (kF k 2 r6.1 r9.2 fun v11 h12 => (kL k v11 h12 fun v14 h15 => (kK (C 194 [v14] h15) (fun v17 h18 => (kN k x0 h18 fun v24 h25 => (kF k 35 v24 h25 fun v27 h28 => (kF k 9 v27 h28 fun v30 h31 => (kL k v30 h31 fun v33 h34 => (kN k x0 h34 fun v40 h41 => (kF k 28 v40 h41 fun v43 h44 => (kL k v43 h44 fun v46 h47 => (kK (C 190 [v46] h47) (fun v49 h50 => (kK (C 195 [v33, v17, v49] h50) (fun v52 h53 => (kX k v52 0 h53 fun v57 h58 => (kX k v52 1 h58 fun v60 h61 => (kC (stdyS false 1 v30 h47 h50) (kB k (fun h68 => sUn .not v60 (SH.pc h68)) (fun v69 h70 => (kS v69 (fun h71 => (sT146_17 C k x0 x2 r6.1 h71)) (fun h72 => (kN k x0 h72 fun v78 h79 => (kF k 28 v78 h79 fun v81 h82 => (kL k v81 h82 fun v84 h85 => (sT146_13 C k x0 r6.1 v17 v57 x1 v84 x0 h85))))) h70)) h61))))))))))))))))))))) h3))
def sK146 (C : CT) (k : Nat) (x0 x1 x2 : S) (h : SH) : Tree := (kN k x0 h fun v4 h5 => (kF k 35 v4 h5 fun v7 h8 => (kF k 1 v7 h8 fun v10 h11 => (sT146_18 C k x0 x1 x2 v10 h11))))
theorem sp146 (C : CT) (k : Nat) : ds C k c146 (sQ146 C k) = fun e h => (sK146 C k (e 0) (e 1) (e 2) h) := by kernel_rfl
def SF146 : SF := sf3 sK146
theorem so146 : SOK IP 146 SF146 := sok3 ir146 rfl (by kernel_rfl) (by kernel_rfl) fun C k x0 x1 x2 h => congrFun (congrFun (sp146 C k) _) h
def sQ147 (C : CT) (k : Nat) : QT := QrS k rs147
def sT147_1 (C : CT) (k : Nat) (x0 x8 x58 : S) (h : SH) : Tree := (kT k 1 x58 (l64 6) h fun r3 _ => (kN k x0 r3.2 fun v9 h10 => (kF k 28 v9 h10 fun v12 h13 => (kL k v12 h13 fun v15 h16 => (kN k x8 h16 fun v20 h21 => (kF k 0 v20 h21 fun v23 h24 => (kF k 3 v23 h24 fun v26 h27 => (kL k v26 h27 fun v29 h30 => (kK (C 145 [v15, v29] h30) (fun v32 h33 => (kN k x8 h33 fun v37 h38 => (kF k 0 v37 h38 fun v40 h41 => (kF k 4 v40 h41 fun v43 h44 => (kL k v43 h44 fun v46 h47 => (kN k x0 h47 fun v51 h52 => (kF k 28 v51 h52 fun v54 h55 => (kL k v54 h55 fun v57 h58 => (kK (C 190 [v57] h58) (fun v60 h61 => (kK (C 189 [v32, v46, v60] h61) (fun v63 h64 => (kN k x0 h64 fun v66 h67 => (kF k 35 v66 h67 fun v69 h70 => (kF k 20 v69 h70 fun v72 h73 => (kT k 5 v72 v63 h73 fun r76 _ => (kC (stdyS false 1 v43 h30 h33) (kC (stdyS false 1 v43 h58 h61) (kC (stdyS false 1 v54 h30 h33) (Tree.leaf (S.tup []) r76.2)))))))))))))))))))))))))))))
def sT147_2 (C : CT) (k : Nat) (x129 : S) (h : SH) : Tree := (kF k 0 x129 h fun v2 h3 => (kT k 1 v2 (l64 5) h3 fun r6 _ => (Tree.leaf (S.tup []) r6.2)))
def sT147_3 (C : CT) (k : Nat) (x110 x124 x127 : S) (h : SH) : Tree := (kT k 9 x127 x124 h fun r3 _ => (kN k x110 r3.2 fun v5 h6 => (kF k 35 v5 h6 fun v8 h9 => (sT147_2 C k v8 h9))))
def sT147_4 (C : CT) (k : Nat) (x109 x110 x124 : S) (h : SH) : Tree := (kN k x109 h fun v2 h3 => (kF k 35 v2 h3 fun v5 h6 => (kF k 11 v5 h6 fun v8 h9 => (sT147_3 C k x110 x124 v8 h9))))
def sT147_5 (C : CT) (k : Nat) (x10 x109 x110 x121 : S) (h : SH) : Tree := (kA k 2 x121 h fun v2 h3 => (kA k 3 x10 h3 fun v5 h6 => (kK (C 178 [v2, v5] h6) (fun v8 h9 => (sT147_4 C k x109 x110 v8 h9)))))
def sT147_6 (C : CT) (k : Nat) (x10 x109 x110 x115 x118 : S) (h : SH) : Tree := (kF k 2 x118 h fun v2 h3 => (kL k v2 h3 fun v5 h6 => (kB k (fun h7 => sIa 2 x115 v5 (SH.pc h7)) (fun v8 h9 => (sT147_5 C k x10 x109 x110 v8 h9)) h6)))
def sT147_7 (C : CT) (k : Nat) (x8 x10 x109 x110 x114 : S) (h : SH) : Tree := (kL k x114 h fun v2 h3 => (kN k x8 h3 fun v7 h8 => (kF k 0 v7 h8 fun v10 h11 => (sT147_6 C k x10 x109 x110 v2 v10 h11))))
def sT147_8 (C : CT) (k : Nat) (x0 x8 x9 x103 x104 : S) (h : SH) : Tree := (kB k (fun h1 => sZero z20 h1) (fun r3 _ => (kT k 3 r3.1 x103 r3.2 fun r6 _ => (kB k (fun h13 => sSls 17 x9 (some (l64 1)) none none (SH.pc h13)) (fun v14 h15 => (kK (C 206 [x0, v14] h15) (fun v17 h18 => (kN k x0 h18 fun v26 h27 => (kF k 19 v26 h27 fun v29 h30 => (kF k 0 v29 h30 fun v32 h33 => (sT147_7 C k x8 r3.1 x0 x0 v32 h33))))))) r6.2))) h)
def sT147_9 (C : CT) (k : Nat) (x0 x8 x9 x101 : S) (h : SH) : Tree := (kK (C 49 [x101] h) (fun v2 h3 => (kX k v2 0 h3 fun v7 h8 => (kX k v2 1 h8 fun v10 h11 => (sT147_8 C k x0 x8 x9 v7 v10 h11)))))
def sT147_10 (C : CT) (k : Nat) (x0 x8 x94 x95 : S) (h : SH) : Tree := (kK (C 205 [x94, x95] h) (fun v2 h3 => (kB k (fun h8 => sIa 17 v2 (l64 0) (SH.pc h8)) (fun v9 h10 => (kF k 1 v9 h10 fun v12 h13 => (kA k 11 v12 h13 fun v15 h16 => (sT147_9 C k x0 x8 v2 v15 h16)))) h3)))
def sT147_11 (C : CT) (k : Nat) (x0 x2 x8 x38 : S) (h : SH) : Tree := (kN k x38 h fun v2 h3 => (kF k 20 v2 h3 fun v5 h6 => (kT k 1 v5 (S.b true) h6 fun r9 _ => (kK (C 207 [x0, x8] r9.2) (fun v15 h16 => (kK (C 188 [x0, (l64 0), (S.i .u32 (.lit 0)), x2] h16) (fun v22 h23 => (Tree.leaf (S.tup []) h23))))))))
def sT147_12 (C : CT) (k : Nat) (x0 x2 x8 : S) (h : SH) : Tree := (kN k x8 h fun v4 h5 => (kF k 14 v4 h5 fun v7 h8 => (kL k v7 h8 fun v10 h11 => (sT147_10 C k x0 x8 v10 x2 h11))))
def sT147_13 (C : CT) (k : Nat) (x0 x2 x8 : S) (h : SH) : Tree := (kN k x8 h fun v6 h7 => (kF k 19 v6 h7 fun v9 h10 => (kT k 1 v9 (S.b false) h10 fun r13 _ => (sT147_11 C k x0 x2 x8 x8 r13.2))))
def sT147_14 (C : CT) (k : Nat) (x0 x2 x8 x88 : S) (h : SH) : Tree := (kL k x88 h fun v2 h3 => (kI k .eql v2 (l64 4) h3 fun v5 h6 => (kS v5 (fun h9 => (sT147_12 C k x0 x2 x8 h9)) (fun h10 => (sT147_13 C k x0 x2 x8 h10)) h6)))
def sT147_15 (C : CT) (k : Nat) (x0 x8 : S) (h : SH) : Tree := (kN k x0 h fun v4 h5 => (kF k 35 v4 h5 fun v7 h8 => (kF k 0 v7 h8 fun v10 h11 => (sT147_1 C k x0 x8 v10 h11))))
def sT147_16 (C : CT) (k : Nat) (x0 x2 x8 : S) (h : SH) : Tree := (kN k x0 h fun v4 h5 => (kF k 35 v4 h5 fun v7 h8 => (kF k 0 v7 h8 fun v10 h11 => (sT147_14 C k x0 x2 x8 v10 h11))))
def sT147_17 (C : CT) (k : Nat) (x0 x2 x6 x8 : S) (h : SH) : Tree := (kI k .neq x6 (l64 0) h fun v4 h5 => (kS v4 (fun h8 => (sT147_15 C k x0 x8 h8)) (fun h9 => (sT147_16 C k x0 x2 x8 h9)) h5))
def sT147_18 (C : CT) (k : Nat) (x0 x2 x6 x7 x35 : S) (h : SH) : Tree := (kL k x35 h fun v2 h3 => (kB k (fun h8 => sUn .not x7 (SH.pc h8)) (fun v9 h10 => (kS v9 (fun h13 => (Tree.leaf (S.tup []) h13)) (fun h14 => (sT147_17 C k x0 x2 x6 v2 h14)) h10)) h3))
def sT147_19 (C : CT) (k : Nat) (x0 x2 x23 x30 : S) (h : SH) : Tree := (kX k x23 1 h fun v2 h3 => (kN k x0 h3 fun v11 h12 => (kF k 35 v11 h12 fun v14 h15 => (kF k 10 v14 h15 fun v17 h18 => (sT147_18 C k x0 x2 x30 v2 v17 h18)))))
def sT147_20 (C : CT) (k : Nat) (x0 x2 x27 : S) (h : SH) : Tree := (kA k 9 x27 h fun v2 h3 => (kK (C 52 [v2] h3) (fun v5 h6 => (kX k v5 0 h6 fun v10 h11 => (sT147_19 C k x0 x2 v5 v10 h11)))))
def sT147_21 (C : CT) (k : Nat) (x0 x2 x19 x20 : S) (h : SH) : Tree := (kF k 35 x20 h fun v2 h3 => (kF k 11 v2 h3 fun v5 h6 => (kT k 9 v5 x19 h6 fun r9 _ => (kN k x0 r9.2 fun v13 h14 => (kF k 35 v13 h14 fun v16 h17 => (kF k 11 v16 h17 fun v19 h20 => (sT147_20 C k x0 x2 v19 h20)))))))
def sT147_22 (C : CT) (k : Nat) (x0 x1 x2 x12 x16 : S) (h : SH) : Tree := (kA k 9 x16 h fun v2 h3 => (kK (C 51 [v2, x1] h3) (fun v7 h8 => (kN k x12 h8 fun v10 h11 => (sT147_21 C k x0 x2 v7 v10 h11)))))
def sK147 (C : CT) (k : Nat) (x0 x1 x2 : S) (h : SH) : Tree := (kN k x0 h fun v6 h7 => (kF k 35 v6 h7 fun v9 h10 => (kF k 11 v9 h10 fun v12 h13 => (sT147_22 C k x0 x1 x2 x0 v12 h13))))
theorem sp147 (C : CT) (k : Nat) : ds C k c147 (sQ147 C k) = fun e h => (sK147 C k (e 0) (e 1) (e 2) h) := by kernel_rfl
def SF147 : SF := sf3 sK147
theorem so147 : SOK IP 147 SF147 := sok3 ir147 rfl (by kernel_rfl) (by kernel_rfl) fun C k x0 x1 x2 h => congrFun (congrFun (sp147 C k) _) h
def sQ148 (C : CT) (k : Nat) : QT := QrS k rs148
def sT148_1 (C : CT) (k : Nat) (x0 x2 x77 x81 : S) (h : SH) : Tree := (kL k x81 h fun v2 h3 => (kK (C 209 [x77, v2] h3) (fun v5 h6 => (kK (C 188 [x0, (l64 3), (S.i .u32 (.lit 0)), x2] h6) (fun v12 h13 => (Tree.leaf (S.tup []) h13))))))
def sT148_2 (C : CT) (k : Nat) (x0 x2 x77 x78 : S) (h : SH) : Tree := (kN k x78 h fun v2 h3 => (kF k 0 v2 h3 fun v5 h6 => (kF k 5 v5 h6 fun v8 h9 => (sT148_1 C k x0 x2 x77 v8 h9))))
def sT148_3 (C : CT) (k : Nat) (x0 x2 x8 x71 x72 : S) (h : SH) : Tree := (kK (C 197 [x71, x72, (S.b false)] h) (fun v2 h3 => (kN k x0 h3 fun v7 h8 => (kF k 29 v7 h8 fun v10 h11 => (kL k v10 h11 fun v13 h14 => (sT148_2 C k x0 x2 v13 x8 h14))))))
def sT148_4 (C : CT) (k : Nat) (x0 x2 x8 x64 x68 : S) (h : SH) : Tree := (kL k x68 h fun v2 h3 => (kB k (fun h4 => sIa 1 x64 v2 (SH.pc h4)) (fun v5 h6 => (kL k v5 h6 fun v8 h9 => (sT148_3 C k x0 x2 x8 v8 x2 h9))) h3))
def sT148_5 (C : CT) (k : Nat) (x0 x2 x8 x64 x65 : S) (h : SH) : Tree := (kN k x65 h fun v2 h3 => (kF k 0 v2 h3 fun v5 h6 => (kF k 2 v5 h6 fun v8 h9 => (sT148_4 C k x0 x2 x8 x64 v8 h9))))
def sT148_6 (C : CT) (k : Nat) (x0 x2 x8 x53 x54 x58 : S) (h : SH) : Tree := (kA k 5 x58 h fun v2 h3 => (kK (C 208 [x53, x54, v2] h3) (fun v5 h6 => (kN k x0 h6 fun v10 h11 => (kF k 31 v10 h11 fun v13 h14 => (kL k v13 h14 fun v16 h17 => (sT148_5 C k x0 x2 x8 v16 x8 h17)))))))
def sT148_7 (C : CT) (k : Nat) (x0 x2 x98 x99 x103 : S) (h : SH) : Tree := (kA k 5 x103 h fun v2 h3 => (kK (C 186 [x98, x99, (l64 4), (S.i .u32 (.lit 0)), v2, x2] h3) (fun v7 h8 => (kK (C 188 [x0, (l64 0), (S.i .u32 (.lit 0)), x2] h8) (fun v14 h15 => (Tree.leaf (S.tup []) h15))))))
def sT148_8 (C : CT) (k : Nat) (x0 x2 x8 : S) (h : SH) : Tree := (kN k x0 h fun v8 h9 => (kF k 35 v8 h9 fun v11 h12 => (kF k 20 v11 h12 fun v14 h15 => (sT148_7 C k x0 x2 x0 x8 v14 h15))))
def sT148_9 (C : CT) (k : Nat) (x0 x2 : S) (h : SH) : Tree := (kK (C 188 [x0, (l64 5), (S.i .u32 (.lit 0)), x2] h) (fun v6 h7 => (Tree.leaf (S.tup []) h7)))
def sT148_10 (C : CT) (k : Nat) (x0 x2 x8 : S) (h : SH) : Tree := (kN k x8 h fun v4 h5 => (kF k 19 v4 h5 fun v7 h8 => (kT k 1 v7 (S.b false) h8 fun r11 _ => (kK (C 188 [x0, (l64 0), (S.i .u32 (.lit 0)), x2] r11.2) (fun v17 h18 => (Tree.leaf (S.tup []) h18))))))
def sT148_11 (C : CT) (k : Nat) (x0 x2 x6 x8 : S) (h : SH) : Tree := (kI k .eql x6 (l64 0) h fun v4 h5 => (kS v4 (fun h8 => (sT148_8 C k x0 x2 x8 h8)) (fun h9 => (sT148_9 C k x0 x2 h9)) h5))
def sT148_12 (C : CT) (k : Nat) (x0 x2 x8 : S) (h : SH) : Tree := (kN k x0 h fun v8 h9 => (kF k 35 v8 h9 fun v11 h12 => (kF k 20 v11 h12 fun v14 h15 => (sT148_6 C k x0 x2 x8 x0 x8 v14 h15))))
def sT148_13 (C : CT) (k : Nat) (x0 x2 x6 x8 x9 : S) (h : SH) : Tree := (kS x9 (fun h5 => (sT148_10 C k x0 x2 x8 h5)) (fun h6 => (sT148_11 C k x0 x2 x6 x8 h6)) h)
def sT148_14 (C : CT) (k : Nat) (x0 x2 x6 x8 x9 : S) (h : SH) : Tree := (kB k (gd x9 true uS (fun h5 => Res.ok x6)) (fun v6 h7 => (kB k (gd x9 true uS (fun h8 => sBin .eql v6 (l64 0) (SH.pc h8))) (fun v9 h10 => (kB k (fun h11 => sPick x9 v9 (S.b false) (SH.pc h11)) (fun v12 h13 => (kS v12 (fun h16 => (sT148_12 C k x0 x2 x8 h16)) (fun h17 => (sT148_13 C k x0 x2 x6 x8 x9 h17)) h13)) h10)) h7)) h)
def sT148_15 (C : CT) (k : Nat) (x0 x2 x6 x7 x8 x38 : S) (h : SH) : Tree := (kL k x38 h fun v2 h3 => (kI k .eql v2 (l64 6) h3 fun v5 h6 => (kB k (fun h11 => sUn .not x7 (SH.pc h11)) (fun v12 h13 => (kS v12 (fun h16 => (Tree.leaf (S.tup []) h16)) (fun h17 => (sT148_14 C k x0 x2 x6 x8 v5 h17)) h13)) h6)))
def sT148_16 (C : CT) (k : Nat) (x0 x2 x6 x7 x33 : S) (h : SH) : Tree := (kL k x33 h fun v2 h3 => (kN k x0 h3 fun v9 h10 => (kF k 35 v9 h10 fun v12 h13 => (kF k 0 v12 h13 fun v15 h16 => (sT148_15 C k x0 x2 x6 x7 v2 v15 h16)))))
def sT148_17 (C : CT) (k : Nat) (x0 x2 x21 x28 : S) (h : SH) : Tree := (kX k x21 1 h fun v2 h3 => (kN k x0 h3 fun v11 h12 => (kF k 35 v11 h12 fun v14 h15 => (kF k 10 v14 h15 fun v17 h18 => (sT148_16 C k x0 x2 x28 v2 v17 h18)))))
def sT148_18 (C : CT) (k : Nat) (x0 x2 x25 : S) (h : SH) : Tree := (kA k 5 x25 h fun v2 h3 => (kK (C 185 [v2] h3) (fun v5 h6 => (kX k v5 0 h6 fun v10 h11 => (sT148_17 C k x0 x2 v5 v10 h11)))))
def sT148_19 (C : CT) (k : Nat) (x0 x2 x17 x18 : S) (h : SH) : Tree := (kF k 35 x18 h fun v2 h3 => (kF k 20 v2 h3 fun v5 h6 => (kT k 5 v5 x17 h6 fun r9 _ => (kN k x0 r9.2 fun v13 h14 => (kF k 35 v13 h14 fun v16 h17 => (kF k 20 v16 h17 fun v19 h20 => (sT148_18 C k x0 x2 v19 h20)))))))
def sT148_20 (C : CT) (k : Nat) (x0 x1 x2 x10 x14 : S) (h : SH) : Tree := (kA k 5 x14 h fun v2 h3 => (kK (C 184 [v2, x1] h3) (fun v7 h8 => (kN k x10 h8 fun v10 h11 => (sT148_19 C k x0 x2 v7 v10 h11)))))
def sK148 (C : CT) (k : Nat) (x0 x1 x2 : S) (h : SH) : Tree := (kN k x0 h fun v6 h7 => (kF k 35 v6 h7 fun v9 h10 => (kF k 20 v9 h10 fun v12 h13 => (sT148_20 C k x0 x1 x2 x0 v12 h13))))
theorem sp148 (C : CT) (k : Nat) : ds C k c148 (sQ148 C k) = fun e h => (sK148 C k (e 0) (e 1) (e 2) h) := by kernel_rfl
def SF148 : SF := sf3 sK148
theorem so148 : SOK IP 148 SF148 := sok3 ir148 rfl (by kernel_rfl) (by kernel_rfl) fun C k x0 x1 x2 h => congrFun (congrFun (sp148 C k) _) h
def sQ152 (C : CT) (k : Nat) : QT := QrS k rs152
def sK152 (C : CT) (k : Nat) (x0 : S) (h : SH) : Tree := (kB k (fun h5 => sEqz false .s x0 S.nsl (SH.pc h5)) (fun v6 h7 => (kS v6 (fun h8 => (Tree.leaf S.nsl h8)) (fun h9 => (kB k (fun h12 => sNewSl 0 [] [] h12) (fun r14 _ => (kB k (fun h17 => sApp 11 80 r14.1 x0 h17) (fun r19 _ => (Tree.leaf r19.1 r19.2)) r14.2)) h9)) h7)) h)
theorem sp152 (C : CT) (k : Nat) : ds C k c152 (sQ152 C k) = fun e h => (sK152 C k (e 0) h) := by kernel_rfl
def SF152 : SF := sf1 sK152
theorem so152 : SOK IP 152 SF152 := sok1 ir152 rfl (by kernel_rfl) (by kernel_rfl) fun C k x0 h => congrFun (congrFun (sp152 C k) _) h
def sQ154 (C : CT) (k : Nat) : QT := QrS k rs154
def sK154 (C : CT) (k : Nat) (x0 : S) (h : SH) : Tree := (kB k (fun h5 => sMax x0 [(l64 1)] (SH.pc h5)) (fun v6 h7 => (kB k (fun h8 => sMin v6 [(l64 16)] (SH.pc h8)) (fun v9 h10 => (Tree.leaf v9 h10)) h7)) h)
theorem sp154 (C : CT) (k : Nat) : ds C k c154 (sQ154 C k) = fun e h => (sK154 C k (e 0) h) := by kernel_rfl
def SF154 : SF := sf1 sK154
theorem so154 : SOK IP 154 SF154 := sok1 ir154 rfl (by kernel_rfl) (by kernel_rfl) fun C k x0 h => congrFun (congrFun (sp154 C k) _) h
def sQ173 (C : CT) (k : Nat) : QT := QrS k rs173
def sQ173_1 (C : CT) (k : Nat) : QT := (sQ173 C k)
def sK173_1 (C : CT) (k : Nat) (h : SH) : Tree := (Tree.leaf (S.i .i64 (.lit (-1))) h)
def sJ173_1 (C : CT) (k : Nat) : ES → SH → Tree := fun e h => (sK173_1 C k h)
theorem sp173_1 (C : CT) (k : Nat) : ds C k c173_1 (sQ173_1 C k) = (sJ173_1 C k) := by kernel_rfl
def sR173_2 (C : CT) (k : Nat) : QT := (QbS 0 (QxS (sJ173_1 C k) (sQ173 C k)))
def sQ173_2 (C : CT) (k : Nat) (g173_2 : S → S → S → S → SH → Tree) : QT := QxS (fun e h => g173_2 (e 0) (e 1) (e 7) (e 8) h) (sR173_2 C k)
def sL173_2 (C : CT) (k : Nat) (g173_2 : S → S → S → S → SH → Tree) (x0 x1 x7 x8 : S) (h : SH) : Tree := (kI k .lss x8 x7 h fun v2 h3 => (kS v2 (fun h4 => (kB k (fun h16 => sIa 1 x0 x8 (SH.pc h16)) (fun v17 h18 => (kL k v17 h18 fun v20 h21 => (kI k .eql x1 v20 h21 fun v23 h24 => (kS v23 (fun h25 => (Tree.leaf x8 h25)) (fun h26 => (kI k .add x8 (l64 1) h26 fun v32 h33 => (g173_2 x0 x1 x7 v32 h33))) h24)))) h4)) (fun h5 => (sK173_1 C k h5)) h3))
theorem sp173_2 (C : CT) (k : Nat) (g173_2 : S → S → S → S → SH → Tree) : ds C k c173_2 (sQ173_2 C k g173_2) = fun e h => (sL173_2 C k g173_2 (e 0) (e 1) (e 7) (e 8) h) := by kernel_rfl
def sW173_2 (C : CT) (k : Nat) (x0 x1 x7 x8 : S) (h : SH) : Tree := kFix k (fun (g : S × S × S × S × Unit → SH → Tree) (x : S × S × S × S × Unit) h => sL173_2 C k (fun y0 y1 y7 y8 h => g (y0, y1, y7, y8, ()) h) x.1 x.2.1 x.2.2.1 x.2.2.2.1 h) (x0, x1, x7, x8, ()) h
theorem sn173_2 (C : CT) (k : Nat) : ∀ g : S × S × S × S × Unit → SH → Tree, ds C k c173_2 (QxS (fun e h => g ((fun e : ES => ((e 0, e 1, e 7, e 8, ()) : S × S × S × S × Unit)) e) h) (sR173_2 C k)) = fun e h => (fun (g : S × S × S × S × Unit → SH → Tree) (x : S × S × S × S × Unit) h => sL173_2 C k (fun y0 y1 y7 y8 h => g (y0, y1, y7, y8, ()) h) x.1 x.2.1 x.2.2.1 x.2.2.2.1 h) g ((fun e : ES => ((e 0, e 1, e 7, e 8, ()) : S × S × S × S × Unit)) e) h := fun g => sp173_2 C k (fun y0 y1 y7 y8 h => g (y0, y1, y7, y8, ()) h)
theorem sw173_2 (C : CT) (k : Nat) : ds C k (.loop c173_2) (sR173_2 C k) = fun e h => (sW173_2 C k (e 0) (e 1) (e 7) (e 8) h) := sloop_eq (fun e : ES => ((e 0, e 1, e 7, e 8, ()) : S × S × S × S × Unit)) (fun (g : S × S × S × S × Unit → SH → Tree) (x : S × S × S × S × Unit) h => sL173_2 C k (fun y0 y1 y7 y8 h => g (y0, y1, y7, y8, ()) h) x.1 x.2.1 x.2.2.1 x.2.2.2.1 h) (sn173_2 C k)
def sK173 (C : CT) (k : Nat) (x0 x1 : S) (h : SH) : Tree := (kB k (fun h5 => sLens x0) (fun v6 h7 => (sW173_2 C k x0 x1 v6 (l64 0) h7)) h)
theorem sp173 (C : CT) (k : Nat) : ds C k c173 (sQ173 C k) = fun e h => (sK173 C k (e 0) (e 1) h) := by
  refine Eq.trans (sseq_eq (sseq_eq (sp173_1 C k) (sseq_eq (sblock_eq (sw173_2 C k)) rfl)) rfl) ?_
  kernel_rfl
def SF173 : SF := sf2 sK173
theorem so173 : SOK IP 173 SF173 := sok2 ir173 rfl (by kernel_rfl) (by kernel_rfl) fun C k x0 x1 h => congrFun (congrFun (sp173 C k) _) h
def sQ174 (C : CT) (k : Nat) : QT := QrS k rs174
def sQ174_1 (C : CT) (k : Nat) : QT := (sQ174 C k)
def sT174_2 (C : CT) (k : Nat) (x3 x27 x28 : S) (h : SH) : Tree := (kF k 1 x28 h fun v2 h3 => (kT k 1 v2 x27 h3 fun r6 _ => (Tree.leaf x3 r6.2)))
def sT174_3 (C : CT) (k : Nat) (x3 x20 x22 x25 : S) (h : SH) : Tree := (kL k x25 h fun v2 h3 => (kI k .rem x22 v2 h3 fun v5 h6 => (kN k x20 h6 fun v8 h9 => (sT174_2 C k x3 v5 v8 h9))))
def sK174_1 (C : CT) (k : Nat) (x0 x3 : S) (h : SH) : Tree := (kI k .add x3 (l64 1) h fun v6 h7 => (kN k x0 h7 fun v11 h12 => (kF k 0 v11 h12 fun v14 h15 => (sT174_3 C k x3 x0 v6 v14 h15))))
def sJ174_1 (C : CT) (k : Nat) : ES → SH → Tree := fun e h => (sK174_1 C k (e 0) (e 3) h)
theorem sp174_1 (C : CT) (k : Nat) : ds C k c174_1 (sQ174_1 C k) = (sJ174_1 C k) := by kernel_rfl
def sT174_4 (C : CT) (k : Nat) (x0 x3 x12 x17 : S) (h : SH) : Tree := (kB k (gd x12 true uS (fun h1 => sBin .eql x17 (l64 0) (SH.pc h1))) (fun v2 h3 => (kB k (fun h4 => sPick x12 v2 (S.b false) (SH.pc h4)) (fun v5 h6 => (kS v5 (fun h7 => (sK174_1 C k x0 (l64 1) h7)) (fun h8 => (sK174_1 C k x0 x3 h8)) h6)) h3)) h)
def sT174_5 (C : CT) (k : Nat) (x0 x3 x12 x14 : S) (h : SH) : Tree := (kB k (gd x12 true uS (fun h1 => sFa 2 x14)) (fun v2 h3 => (kB k (gd x12 true uS (fun h4 => sLd1 v2 h4)) (fun v5 h6 => (kB k (gd x12 true uS (fun h7 => sLens v5)) (fun v8 h9 => (sT174_4 C k x0 x3 x12 v8 h9)) h6)) h3)) h)
def sK174 (C : CT) (k : Nat) (x0 : S) (h : SH) : Tree := (kB k (fun h5 => sEqz false .p x0 (S.p none) (SH.pc h5)) (fun v6 h7 => (kS v6 (fun h8 => (Tree.leaf (l64 1) h8)) (fun h9 => (kN k x0 h9 fun v15 h16 => (kF k 1 v15 h16 fun v18 h19 => (kL k v18 h19 fun v21 h22 => (kI k .eql v21 (l64 0) h22 fun v28 h29 => (kB k (gd v28 true uS (fun h32 => Res.ok x0)) (fun v33 h34 => (kB k (gd v28 true uS (fun h35 => sNilc v33)) (fun v36 h37 => (sT174_5 C k x0 v21 v28 v36 h37)) h34)) h29)))))) h7)) h)
theorem sp174 (C : CT) (k : Nat) : ds C k c174 (sQ174 C k) = fun e h => (sK174 C k (e 0) h) := by
  refine Eq.trans (sseq_eq (sseq_eq (sseq_eq (sseq_eq (sp174_1 C k) rfl) rfl) rfl) rfl) ?_
  kernel_rfl
def SF174 : SF := sf1 sK174
theorem so174 : SOK IP 174 SF174 := sok1 ir174 rfl (by kernel_rfl) (by kernel_rfl) fun C k x0 h => congrFun (congrFun (sp174 C k) _) h
def sQ175 (C : CT) (k : Nat) : QT := QrS k rs175
def sT175_1 (C : CT) (k : Nat) (x2 x11 : S) (h : SH) : Tree := (kB k (fun h1 => sIa 11 x11 (l64 0) (SH.pc h1)) (fun v2 h3 => (kA k 11 v2 h3 fun v5 h6 => (kT k 11 x2 v5 h6 fun r9 _ => (kA k 11 x2 r9.2 fun v13 h14 => (Tree.leaf (S.tup [v13, (S.b true)]) h14))))) h)
def sT175_2 (C : CT) (k : Nat) (x2 : S) (h : SH) : Tree := (kB k (fun h1 => sBld z9 []) (fun v2 h3 => (kT k 11 x2 v2 h3 fun r6 _ => (kA k 11 x2 r6.2 fun v10 h11 => (Tree.leaf (S.tup [v10, (S.b false)]) h11)))) h)
def sK175 (C : CT) (k : Nat) (x0 : S) (h : SH) : Tree := (kB k (fun h1 => sZero z9 h1) (fun r3 _ => (kK (C 225 [x0] r3.2) (fun v9 h10 => (kI k .eql v9 (l64 0) h10 fun v12 h13 => (kS v12 (fun h14 => (sT175_2 C k r3.1 h14)) (fun h15 => (kN k x0 h15 fun v19 h20 => (kF k 2 v19 h20 fun v22 h23 => (kL k v22 h23 fun v25 h26 => (sT175_1 C k r3.1 v25 h26))))) h13))))) h)
theorem sp175 (C : CT) (k : Nat) : ds C k c175 (sQ175 C k) = fun e h => (sK175 C k (e 0) h) := by kernel_rfl
def SF175 : SF := sf1 sK175
theorem so175 : SOK IP 175 SF175 := sok1 ir175 rfl (by kernel_rfl) (by kernel_rfl) fun C k x0 h => congrFun (congrFun (sp175 C k) _) h
def sQ176 (C : CT) (k : Nat) : QT := QrS k rs176
def sT176_1 (C : CT) (k : Nat) (x21 x22 : S) (h : SH) : Tree := (kB k (fun h1 => sIa 1 x21 x22 (SH.pc h1)) (fun v2 h3 => (kL k v2 h3 fun v5 h6 => (Tree.leaf v5 h6))) h)
def sT176_2 (C : CT) (k : Nat) (x0 x4 x5 x13 : S) (h : SH) : Tree := (kB k (fun h1 => Res.ok (S.fn 226 [x4, x5])) (fun v2 h3 => (kK (C 102 [x13, v2] h3) (fun v5 h6 => (kI k .lss v5 (l64 0) h6 fun v12 h13 => (kS v12 (fun h14 => (Tree.leaf (S.p none) h14)) (fun h15 => (kN k x0 h15 fun v21 h22 => (kF k 1 v21 h22 fun v24 h25 => (kL k v24 h25 fun v27 h28 => (sT176_1 C k v27 v5 h28))))) h13))))) h)
def sK176 (C : CT) (k : Nat) (x0 x1 x2 : S) (h : SH) : Tree := (kB k (fun h1 => sBox x1 h1) (fun r3 _ => (kB k (fun h4 => sBox x2 h4) (fun r6 _ => (kB k (fun h11 => sEqz false .p x0 (S.p none) (SH.pc h11)) (fun v12 h13 => (kS v12 (fun h14 => (Tree.leaf (S.p none) h14)) (fun h15 => (kN k x0 h15 fun v21 h22 => (kF k 1 v21 h22 fun v24 h25 => (kL k v24 h25 fun v27 h28 => (sT176_2 C k x0 r3.1 r6.1 v27 h28))))) h13)) r6.2)) r3.2)) h)
theorem sp176 (C : CT) (k : Nat) : ds C k c176 (sQ176 C k) = fun e h => (sK176 C k (e 0) (e 1) (e 2) h) := by kernel_rfl
def SF176 : SF := sf3 sK176
theorem so176 : SOK IP 176 SF176 := sok3 ir176 rfl (by kernel_rfl) (by kernel_rfl) fun C k x0 x1 x2 h => congrFun (congrFun (sp176 C k) _) h
def sQ177 (C : CT) (k : Nat) : QT := QrS k rs177
def sT177_1 (C : CT) (k : Nat) (x12 x13 : S) (h : SH) : Tree := (kF k 2 x13 h fun v2 h3 => (kT k 1 v2 x12 h3 fun r6 _ => (Tree.leaf (S.b true) r6.2)))
def sT177_2 (C : CT) (k : Nat) (x6 x10 : S) (h : SH) : Tree := (kB k (fun h1 => sSls 11 x10 (some (l64 1)) none none (SH.pc h1)) (fun v2 h3 => (kK (C 152 [v2] h3) (fun v5 h6 => (kN k x6 h6 fun v8 h9 => (sT177_1 C k v5 v8 h9))))) h)
def sK177 (C : CT) (k : Nat) (x0 : S) (h : SH) : Tree := (kK (C 225 [x0] h) (fun v6 h7 => (kI k .eql v6 (l64 0) h7 fun v9 h10 => (kS v9 (fun h11 => (Tree.leaf (S.b false) h11)) (fun h12 => (kN k x0 h12 fun v20 h21 => (kF k 2 v20 h21 fun v23 h24 => (kL k v23 h24 fun v26 h27 => (sT177_2 C k x0 v26 h27))))) h10))))
theorem sp177 (C : CT) (k : Nat) : ds C k c177 (sQ177 C k) = fun e h => (sK177 C k (e 0) h) := by kernel_rfl
def SF177 : SF := sf1 sK177
theorem so177 : SOK IP 177 SF177 := sok1 ir177 rfl (by kernel_rfl) (by kernel_rfl) fun C k x0 h => congrFun (congrFun (sp177 C k) _) h
def sQ178 (C : CT) (k : Nat) : QT := QrS k rs178
def sT178_1 (C : CT) (k : Nat) (x4 x7 : S) (h : SH) : Tree := (kT k 9 x4 x7 h fun r3 _ => (kA k 9 x4 r3.2 fun v5 h6 => (Tree.leaf v5 h6)))
def sK178 (C : CT) (k : Nat) (x0 x1 : S) (h : SH) : Tree := (kB k (fun h1 => sBox x0 h1) (fun r3 _ => (kB k (fun h4 => sBox x1 h4) (fun r6 _ => (kB k (fun h7 => sZero z17 h7) (fun r9 _ => (kA k 2 r3.1 r9.2 fun v11 h12 => (kA k 3 r6.1 h12 fun v14 h15 => (kB k (fun h16 => sBld z17 [(0, 2, v11), (2, 3, v14)]) (fun v17 h18 => (sT178_1 C k r9.1 v17 h18)) h15)))) r6.2)) r3.2)) h)
theorem sp178 (C : CT) (k : Nat) : ds C k c178 (sQ178 C k) = fun e h => (sK178 C k (e 0) (e 1) h) := by kernel_rfl
def SF178 : SF := sf2 sK178
theorem so178 : SOK IP 178 SF178 := sok2 ir178 rfl (by kernel_rfl) (by kernel_rfl) fun C k x0 x1 h => congrFun (congrFun (sp178 C k) _) h
def sQ179 (C : CT) (k : Nat) : QT := QrS k rs179
def sT179_1 (C : CT) (k : Nat) (x4 x17 x19 : S) (h : SH) : Tree := (kB k (fun h1 => sIa 2 x17 x19 (SH.pc h1)) (fun v2 h3 => (kA k 2 v2 h3 fun v5 h6 => (kT k 2 x4 v5 h6 fun r9 _ => (kA k 2 x4 r9.2 fun v11 h12 => (Tree.leaf v11 h12))))) h)
def sT179_2 (C : CT) (k : Nat) (x3 x4 x16 : S) (h : SH) : Tree := (kL k x16 h fun v2 h3 => (kF k 2 x3 h3 fun v5 h6 => (kL k v5 h6 fun v8 h9 => (sT179_1 C k x4 v2 v8 h9))))
def sT179_3 (C : CT) (k : Nat) (x4 x11 : S) (h : SH) : Tree := (kA k 2 x11 h fun v2 h3 => (kT k 2 x4 v2 h3 fun r6 _ => (kA k 2 x4 r6.2 fun v8 h9 => (Tree.leaf v8 h9))))
def sT179_4 (C : CT) (k : Nat) (x0 x4 : S) (h : SH) : Tree := (kN k x0 h fun v4 h5 => (kF k 19 v4 h5 fun v7 h8 => (kF k 4 v7 h8 fun v10 h11 => (sT179_3 C k x4 v10 h11))))
def sK179 (C : CT) (k : Nat) (x0 x1 : S) (h : SH) : Tree := (kB k (fun h1 => sBox x1 h1) (fun r3 _ => (kB k (fun h4 => sZero z19 h4) (fun r6 _ => (kF k 0 r3.1 r6.2 fun v8 h9 => (kL k v8 h9 fun v11 h12 => (kI k .eql v11 (l64 9) h12 fun v14 h15 => (kS v14 (fun h16 => (sT179_4 C k x0 r6.1 h16)) (fun h17 => (kN k x0 h17 fun v21 h22 => (kF k 19 v21 h22 fun v24 h25 => (kF k 0 v24 h25 fun v27 h28 => (sT179_2 C k r3.1 r6.1 v27 h28))))) h15))))) r3.2)) h)
theorem sp179 (C : CT) (k : Nat) : ds C k c179 (sQ179 C k) = fun e h => (sK179 C k (e 0) (e 1) h) := by kernel_rfl
def SF179 : SF := sf2 sK179
theorem so179 : SOK IP 179 SF179 := sok2 ir179 rfl (by kernel_rfl) (by kernel_rfl) fun C k x0 x1 h => congrFun (congrFun (sp179 C k) _) h
def sQ180 (C : CT) (k : Nat) : QT := QrS k rs180
def sT180_1 (C : CT) (k : Nat) (x0 x4 x6 : S) (h : SH) : Tree := (kF k 10 x4 h fun v6 h7 => (kL k v6 h7 fun v9 h10 => (kK (C 228 [x0, x6, (l64 1), v9] h10) (fun v12 h13 => (Tree.leaf (S.tup []) h13)))))
def sT180_2 (C : CT) (k : Nat) (x0 x4 x6 x48 : S) (h : SH) : Tree := (kL k x48 h fun v2 h3 => (kB k (fun h4 => sUn .not v2 (SH.pc h4)) (fun v5 h6 => (kS v5 (fun h7 => (sT180_1 C k x0 x4 x6 h7)) (fun h8 => (Tree.leaf (S.tup []) h8)) h6)) h3))
def sT180_3 (C : CT) (k : Nat) (x83 x94 : S) (h : SH) : Tree := (kK (C 91 [x83, x94] h) (fun v2 h3 => (Tree.leaf (S.tup []) h3)))
def sT180_4 (C : CT) (k : Nat) (x2 x4 x83 x88 x90 : S) (h : SH) : Tree := (kF k 10 x4 h fun v2 h3 => (kL k v2 h3 fun v5 h6 => (kB k (fun h9 => sBld z16 [(0, 1, (l64 3)), (2, 1, x88), (12, 1, x90), (13, 1, v5), (14, 1, x2)]) (fun v10 h11 => (sT180_3 C k x83 v10 h11)) h6)))
def sT180_5 (C : CT) (k : Nat) (x2 x4 x83 x87 : S) (h : SH) : Tree := (kL k x87 h fun v2 h3 => (kF k 9 x4 h3 fun v5 h6 => (kL k v5 h6 fun v8 h9 => (sT180_4 C k x2 x4 x83 v2 v8 h9))))
def sT180_6 (C : CT) (k : Nat) (x0 x2 x4 x6 : S) (h : SH) : Tree := (kN k x6 h fun v6 h7 => (kF k 0 v6 h7 fun v9 h10 => (kF k 5 v9 h10 fun v12 h13 => (sT180_5 C k x2 x4 x0 v12 h13))))
def sT180_7 (C : CT) (k : Nat) (x0 x2 x4 x6 x71 x75 x77 x79 : S) (h : SH) : Tree := (kK (kG x71 true (fun h1 => C 229 [x75, x77, x79] h1) h) (fun v2 h3 => (kB k (gd x71 true uS (fun h4 => sBin .eql v2 (l64 0) (SH.pc h4))) (fun v5 h6 => (kB k (fun h7 => sPick x71 v5 (S.b false) (SH.pc h7)) (fun v8 h9 => (kS v8 (fun h10 => (sT180_6 C k x0 x2 x4 x6 h10)) (fun h11 => (Tree.leaf (S.tup []) h11)) h9)) h6)) h3)))
def sT180_8 (C : CT) (k : Nat) (x0 x2 x4 x6 x71 x75 x76 : S) (h : SH) : Tree := (kB k (gd x71 true uS (fun h1 => sLd1 x76 h1)) (fun v2 h3 => (kB k (gd x71 true uS (fun h4 => sFa 10 x4)) (fun v5 h6 => (kB k (gd x71 true uS (fun h7 => sLd1 v5 h7)) (fun v8 h9 => (sT180_7 C k x0 x2 x4 x6 x71 x75 v2 v8 h9)) h6)) h3)) h)
def sT180_9 (C : CT) (k : Nat) (x0 x2 x4 x6 x71 x73 : S) (h : SH) : Tree := (kB k (gd x71 true uS (fun h1 => sFa 18 x73)) (fun v2 h3 => (kB k (gd x71 true uS (fun h4 => sLd1 v2 h4)) (fun v5 h6 => (kB k (gd x71 true uS (fun h7 => sFa 9 x4)) (fun v8 h9 => (sT180_8 C k x0 x2 x4 x6 x71 v5 v8 h9)) h6)) h3)) h)
def sT180_10 (C : CT) (k : Nat) (x0 x2 x4 x6 x69 : S) (h : SH) : Tree := (kL k x69 h fun v2 h3 => (kB k (gd v2 true uS (fun h6 => Res.ok x6)) (fun v7 h8 => (kB k (gd v2 true uS (fun h9 => sNilc v7)) (fun v10 h11 => (sT180_9 C k x0 x2 x4 x6 v2 v10 h11)) h8)) h3))
def sT180_11 (C : CT) (k : Nat) (x113 x114 x117 : S) (h : SH) : Tree := (kK (C 228 [x113, x114, (l64 2), x117] h) (fun v2 h3 => (Tree.leaf (S.tup []) h3)))
def sT180_12 (C : CT) (k : Nat) (x0 x4 x6 : S) (h : SH) : Tree := (kF k 9 x4 h fun v6 h7 => (kL k v6 h7 fun v9 h10 => (kB k (fun h11 => sCvi .u32 v9 (SH.pc h11)) (fun v12 h13 => (sT180_11 C k x0 x6 v12 h13)) h10)))
def sT180_13 (C : CT) (k : Nat) (x0 x4 x6 x103 x111 : S) (h : SH) : Tree := (kB k (fun h1 => sPick x103 x111 (S.b false) (SH.pc h1)) (fun v2 h3 => (kS v2 (fun h4 => (sT180_12 C k x0 x4 x6 h4)) (fun h5 => (Tree.leaf (S.tup []) h5)) h3)) h)
def sT180_14 (C : CT) (k : Nat) (x0 x4 x6 x103 x107 x108 : S) (h : SH) : Tree := (kB k (gd x103 true uS (fun h1 => sLd1 x108 h1)) (fun v2 h3 => (kK (kG x103 true (fun h4 => C 230 [x107, v2] h4) h3) (fun v5 h6 => (kB k (gd x103 true uS (fun h7 => sBin .eql v5 (l64 0) (SH.pc h7))) (fun v8 h9 => (sT180_13 C k x0 x4 x6 x103 v8 h9)) h6)))) h)
def sT180_15 (C : CT) (k : Nat) (x0 x4 x6 x103 x105 : S) (h : SH) : Tree := (kB k (gd x103 true uS (fun h1 => sFa 18 x105)) (fun v2 h3 => (kB k (gd x103 true uS (fun h4 => sLd1 v2 h4)) (fun v5 h6 => (kB k (gd x103 true uS (fun h7 => sFa 9 x4)) (fun v8 h9 => (sT180_14 C k x0 x4 x6 x103 v5 v8 h9)) h6)) h3)) h)
def sT180_16 (C : CT) (k : Nat) (x0 x4 x6 x101 : S) (h : SH) : Tree := (kL k x101 h fun v2 h3 => (kB k (gd v2 true uS (fun h6 => Res.ok x6)) (fun v7 h8 => (kB k (gd v2 true uS (fun h9 => sNilc v7)) (fun v10 h11 => (sT180_15 C k x0 x4 x6 v2 v10 h11)) h8)) h3))
def sT180_17 (C : CT) (k : Nat) (x0 x4 x6 : S) (h : SH) : Tree := (kN k x6 h fun v4 h5 => (kF k 0 v4 h5 fun v7 h8 => (kF k 8 v7 h8 fun v10 h11 => (sT180_16 C k x0 x4 x6 v10 h11))))
def sT180_18 (C : CT) (k : Nat) (x0 x2 x4 x6 : S) (h : SH) : Tree := (kN k x6 h fun v4 h5 => (kF k 0 v4 h5 fun v7 h8 => (kF k 8 v7 h8 fun v10 h11 => (sT180_10 C k x0 x2 x4 x6 v10 h11))))
def sT180_19 (C : CT) (k : Nat) (x0 x4 x6 x34 : S) (h : SH) : Tree := (kI k .eql x34 (l64 4) h fun v2 h3 => (kS v2 (fun h6 => (sT180_17 C k x0 x4 x6 h6)) (fun h7 => (Tree.leaf (S.tup []) h7)) h3))
def sT180_20 (C : CT) (k : Nat) (x0 x2 x4 x6 : S) (h : SH) : Tree := (kF k 6 x4 h fun v6 h7 => (kL k v6 h7 fun v9 h10 => (kK (C 182 [x0, x6, v9, x2] h10) (fun v14 h15 => (Tree.leaf (S.tup []) h15)))))
def sT180_21 (C : CT) (k : Nat) (x0 x2 x4 x6 x34 : S) (h : SH) : Tree := (kI k .eql x34 (l64 3) h fun v2 h3 => (kS v2 (fun h6 => (sT180_18 C k x0 x2 x4 x6 h6)) (fun h7 => (sT180_19 C k x0 x4 x6 x34 h7)) h3))
def sT180_22 (C : CT) (k : Nat) (x0 x4 x6 : S) (h : SH) : Tree := (kN k x6 h fun v4 h5 => (kF k 0 v4 h5 fun v7 h8 => (kF k 8 v7 h8 fun v10 h11 => (sT180_2 C k x0 x4 x6 v10 h11))))
def sT180_23 (C : CT) (k : Nat) (x0 x2 x4 x6 x34 : S) (h : SH) : Tree := (kI k .eql x34 (l64 7) h fun v2 h3 => (kS v2 (fun h6 => (sT180_20 C k x0 x2 x4 x6 h6)) (fun h7 => (sT180_21 C k x0 x2 x4 x6 x34 h7)) h3))
def sT180_24 (C : CT) (k : Nat) (x0 x2 x4 x6 : S) (h : SH) : Tree := (kF k 6 x4 h fun v6 h7 => (kL k v6 h7 fun v9 h10 => (kK (C 227 [x0, x6, v9, x2] h10) (fun v14 h15 => (Tree.leaf (S.tup []) h15)))))
def sT180_25 (C : CT) (k : Nat) (x0 x2 x4 x6 x34 : S) (h : SH) : Tree := (kI k .eql x34 (l64 2) h fun v2 h3 => (kS v2 (fun h6 => (sT180_22 C k x0 x4 x6 h6)) (fun h7 => (sT180_23 C k x0 x2 x4 x6 x34 h7)) h3))
def sT180_26 (C : CT) (k : Nat) (x0 x2 x4 x6 x18 x22 x24 x29 : S) (h : SH) : Tree := (kB k (gd x22 true uS (fun h1 => sBin .neq x24 x29 (SH.pc h1))) (fun v2 h3 => (kB k (gd x18 false uS (fun h4 => sPick x22 v2 (S.b false) (SH.pc h4))) (fun v5 h6 => (kB k (fun h7 => sPick x18 (S.b true) v5 (SH.pc h7)) (fun v8 h9 => (kS v8 (fun h10 => (Tree.leaf (S.tup []) h10)) (fun h11 => (kF k 0 x4 h11 fun v13 h14 => (kL k v13 h14 fun v16 h17 => (kI k .eql v16 (l64 10) h17 fun v19 h20 => (kS v19 (fun h23 => (sT180_24 C k x0 x2 x4 x6 h23)) (fun h24 => (sT180_25 C k x0 x2 x4 x6 v16 h24)) h20))))) h9)) h6)) h3)) h)
def sT180_27 (C : CT) (k : Nat) (x0 x2 x4 x6 x18 x22 x24 x26 : S) (h : SH) : Tree := (kB k (gd x22 true uS (fun h1 => sFa 0 x26)) (fun v2 h3 => (kB k (gd x22 true uS (fun h4 => sFa 5 v2)) (fun v5 h6 => (kB k (gd x22 true uS (fun h7 => sLd1 v5 h7)) (fun v8 h9 => (sT180_26 C k x0 x2 x4 x6 x18 x22 x24 v8 h9)) h6)) h3)) h)
def sT180_28 (C : CT) (k : Nat) (x0 x2 x4 x6 x18 x22 x23 : S) (h : SH) : Tree := (kB k (gd x22 true uS (fun h1 => sLd1 x23 h1)) (fun v2 h3 => (kB k (gd x22 true uS (fun h4 => Res.ok x6)) (fun v5 h6 => (kB k (gd x22 true uS (fun h7 => sNilc v5)) (fun v8 h9 => (sT180_27 C k x0 x2 x4 x6 x18 x22 v2 v8 h9)) h6)) h3)) h)
def sT180_29 (C : CT) (k : Nat) (x0 x2 x4 x6 x18 x20 : S) (h : SH) : Tree := (kB k (gd x18 false uS (fun h1 => sBin .neq x20 (l64 10) (SH.pc h1))) (fun v2 h3 => (kB k (gd x18 false uS (fun h4 => Res.ok v2)) (fun v5 h6 => (kB k (gd v5 true uS (fun h7 => sFa 5 x4)) (fun v8 h9 => (sT180_28 C k x0 x2 x4 x6 x18 v5 v8 h9)) h6)) h3)) h)
def sT180_30 (C : CT) (k : Nat) (x0 x2 x4 x10 x12 x13 : S) (h : SH) : Tree := (kL k x13 h fun v2 h3 => (kK (C 176 [x10, x12, v2] h3) (fun v5 h6 => (kB k (fun h11 => sEqz false .p v5 (S.p none) (SH.pc h11)) (fun v12 h13 => (kB k (gd v12 false uS (fun h16 => sFa 0 x4)) (fun v17 h18 => (kB k (gd v12 false uS (fun h19 => sLd1 v17 h19)) (fun v20 h21 => (sT180_29 C k x0 x2 x4 v5 v12 v20 h21)) h18)) h13)) h6))))
def sT180_31 (C : CT) (k : Nat) (x0 x2 x4 x10 : S) (h : SH) : Tree := (kF k 3 x4 h fun v2 h3 => (kL k v2 h3 fun v5 h6 => (kF k 4 x4 h6 fun v8 h9 => (sT180_30 C k x0 x2 x4 x10 v5 v8 h9))))
def sK180 (C : CT) (k : Nat) (x0 x1 x2 : S) (h : SH) : Tree := (kB k (fun h1 => sBox x1 h1) (fun r3 _ => (kN k x0 r3.2 fun v7 h8 => (kF k 29 v7 h8 fun v10 h11 => (kL k v10 h11 fun v13 h14 => (sT180_31 C k x0 x2 r3.1 v13 h14))))) h)
theorem sp180 (C : CT) (k : Nat) : ds C k c180 (sQ180 C k) = fun e h => (sK180 C k (e 0) (e 1) (e 2) h) := by kernel_rfl
def SF180 : SF := sf3 sK180
theorem so180 : SOK IP 180 SF180 := sok3 ir180 rfl (by kernel_rfl) (by kernel_rfl) fun C k x0 x1 x2 h => congrFun (congrFun (sp180 C k) _) h
def sQ181 (C : CT) (k : Nat) : QT := QrS k rs181
def sT181_1 (C : CT) (k : Nat) (x4 : S) (h : SH) : Tree := (kN k x4 h fun v4 h5 => (kF k 21 v4 h5 fun v7 h8 => (kT k 1 v7 (S.b false) h8 fun r11 _ => (Tree.leaf (S.tup []) r11.2))))
def sT181_2 (C : CT) (k : Nat) (x4 x14 x16 : S) (h : SH) : Tree := (kB k (gd x14 true uS (fun h1 => sBin .eql x16 (l64 8) (SH.pc h1))) (fun v2 h3 => (kB k (fun h4 => sPick x14 v2 (S.b false) (SH.pc h4)) (fun v5 h6 => (kS v5 (fun h7 => (sT181_1 C k x4 h7)) (fun h8 => (Tree.leaf (S.tup []) h8)) h6)) h3)) h)
def sT181_3 (C : CT) (k : Nat) (x3 x8 : S) (h : SH) : Tree := (kF k 5 x3 h fun v2 h3 => (kL k v2 h3 fun v5 h6 => (kK (C 54 [x8, v5] h6) (fun v8 h9 => (kB k (fun h14 => sEqz true .p v8 (S.p none) (SH.pc h14)) (fun v15 h16 => (kB k (gd v15 true uS (fun h19 => sFa 0 x3)) (fun v20 h21 => (kB k (gd v15 true uS (fun h22 => sLd1 v20 h22)) (fun v23 h24 => (sT181_2 C k v8 v15 v23 h24)) h21)) h16)) h9)))))
def sK181 (C : CT) (k : Nat) (x0 x1 : S) (h : SH) : Tree := (kB k (fun h1 => sBox x1 h1) (fun r3 _ => (kN k x0 r3.2 fun v7 h8 => (kF k 29 v7 h8 fun v10 h11 => (kL k v10 h11 fun v13 h14 => (sT181_3 C k r3.1 v13 h14))))) h)
theorem sp181 (C : CT) (k : Nat) : ds C k c181 (sQ181 C k) = fun e h => (sK181 C k (e 0) (e 1) h) := by kernel_rfl
def SF181 : SF := sf2 sK181
theorem so181 : SOK IP 181 SF181 := sok2 ir181 rfl (by kernel_rfl) (by kernel_rfl) fun C k x0 x1 h => congrFun (congrFun (sp181 C k) _) h
def sQ184 (C : CT) (k : Nat) : QT := QrS k rs184
def sQ184_1 (C : CT) (k : Nat) : QT := (sQ184 C k)
def sK184_1 (C : CT) (k : Nat) (x2 x4 : S) (h : SH) : Tree := (kA k 5 x2 h fun v2 h3 => (kT k 5 x4 v2 h3 fun r6 _ => (kA k 5 x4 r6.2 fun v8 h9 => (Tree.leaf v8 h9))))
def sJ184_1 (C : CT) (k : Nat) : ES → SH → Tree := fun e h => (sK184_1 C k (e 2) (e 4) h)
theorem sp184_1 (C : CT) (k : Nat) : ds C k c184_1 (sQ184_1 C k) = (sJ184_1 C k) := by kernel_rfl
def sT184_2 (C : CT) (k : Nat) (x2 x4 x17 x18 : S) (h : SH) : Tree := (kL k x18 h fun v2 h3 => (kK (C 232 [x17, v2] h3) (fun v5 h6 => (kS v5 (fun h7 => (kF k 3 x2 h7 fun v10 h11 => (kT k 1 v10 (l64 1) h11 fun r14 _ => (sK184_1 C k x2 x4 r14.2)))) (fun h8 => (sK184_1 C k x2 x4 h8)) h6))))
def sT184_3 (C : CT) (k : Nat) (x2 x4 x13 : S) (h : SH) : Tree := (kF k 4 x2 h fun v2 h3 => (kT k 1 v2 x13 h3 fun r6 _ => (kF k 3 x2 r6.2 fun v8 h9 => (kT k 1 v8 (l64 3) h9 fun r12 _ => (kF k 4 x2 r12.2 fun v14 h15 => (kL k v14 h15 fun v17 h18 => (kF k 1 x2 h18 fun v20 h21 => (sT184_2 C k x2 x4 v17 v20 h21))))))))
def sT184_4 (C : CT) (k : Nat) (x2 x4 x39 : S) (h : SH) : Tree := (kT k 1 x39 (l64 2) h fun r3 _ => (sK184_1 C k x2 x4 r3.2))
def sT184_5 (C : CT) (k : Nat) (x2 x4 x5 : S) (h : SH) : Tree := (kF k 4 x2 h fun v4 h5 => (kT k 1 v4 x5 h5 fun r8 _ => (kF k 3 x2 r8.2 fun v10 h11 => (sT184_4 C k x2 x4 v10 h11))))
def sT184_6 (C : CT) (k : Nat) (x2 x4 x5 x30 x32 x33 : S) (h : SH) : Tree := (kL k x33 h fun v2 h3 => (kK (C 100 [x30, x32, v2, x5] h3) (fun v7 h8 => (kS v7 (fun h9 => (sT184_5 C k x2 x4 x5 h9)) (fun h10 => (sK184_1 C k x2 x4 h10)) h8))))
def sT184_7 (C : CT) (k : Nat) (x1 x2 x4 x25 x26 : S) (h : SH) : Tree := (kL k x26 h fun v2 h3 => (kK (C 233 [x25, v2] h3) (fun v5 h6 => (kF k 3 x2 h6 fun v10 h11 => (kT k 1 v10 (l64 0) h11 fun r14 _ => (kF k 0 x2 r14.2 fun v18 h19 => (kL k v18 h19 fun v21 h22 => (kF k 4 x2 h22 fun v24 h25 => (sT184_6 C k x2 x4 v5 x1 v21 v24 h25)))))))))
def sT184_8 (C : CT) (k : Nat) (x1 x2 x4 : S) (h : SH) : Tree := (kF k 4 x2 h fun v2 h3 => (kL k v2 h3 fun v5 h6 => (kF k 2 x2 h6 fun v8 h9 => (sT184_7 C k x1 x2 x4 v5 v8 h9))))
def sT184_9 (C : CT) (k : Nat) (x1 x2 x4 : S) (h : SH) : Tree := (kF k 0 x2 h fun v4 h5 => (kL k v4 h5 fun v7 h8 => (kK (C 96 [x1, v7] h8) (fun v10 h11 => (sT184_3 C k x2 x4 v10 h11)))))
def sT184_10 (C : CT) (k : Nat) (x1 x2 x4 x7 : S) (h : SH) : Tree := (kI k .eql x7 (l64 1) h fun v2 h3 => (kS v2 (fun h6 => (sT184_8 C k x1 x2 x4 h6)) (fun h7 => (sK184_1 C k x2 x4 h7)) h3))
def sK184 (C : CT) (k : Nat) (x0 x1 : S) (h : SH) : Tree := (kB k (fun h1 => sBox x0 h1) (fun r3 _ => (kB k (fun h4 => sZero z12 h4) (fun r6 _ => (kF k 3 r3.1 r6.2 fun v8 h9 => (kL k v8 h9 fun v11 h12 => (kI k .eql v11 (l64 0) h12 fun v14 h15 => (kS v14 (fun h18 => (sT184_9 C k x1 r3.1 r6.1 h18)) (fun h19 => (sT184_10 C k x1 r3.1 r6.1 v11 h19)) h15))))) r3.2)) h)
theorem sp184 (C : CT) (k : Nat) : ds C k c184 (sQ184 C k) = fun e h => (sK184 C k (e 0) (e 1) h) := by
  refine Eq.trans (sseq_eq (sseq_eq (sp184_1 C k) rfl) rfl) ?_
  kernel_rfl
def SF184 : SF := sf2 sK184
theorem so184 : SOK IP 184 SF184 := sok2 ir184 rfl (by kernel_rfl) (by kernel_rfl) fun C k x0 x1 h => congrFun (congrFun (sp184 C k) _) h
def sQ185 (C : CT) (k : Nat) : QT := QrS k rs185
def sT185_1 (C : CT) (k : Nat) (x5 : S) (h : SH) : Tree := (kI k .eql x5 (l64 3) h fun v2 h3 => (kS v2 (fun h6 => (Tree.leaf (S.tup [(l64 5), (S.b true)]) h6)) (fun h7 => (Tree.leaf (S.tup [(l64 0), (S.b false)]) h7)) h3))
def sK185 (C : CT) (k : Nat) (x0 : S) (h : SH) : Tree := (kB k (fun h1 => sBox x0 h1) (fun r3 _ => (kF k 3 r3.1 r3.2 fun v9 h10 => (kL k v9 h10 fun v12 h13 => (kI k .eql v12 (l64 2) h13 fun v15 h16 => (kS v15 (fun h19 => (Tree.leaf (S.tup [(l64 0), (S.b true)]) h19)) (fun h20 => (sT185_1 C k v12 h20)) h16))))) h)
theorem sp185 (C : CT) (k : Nat) : ds C k c185 (sQ185 C k) = fun e h => (sK185 C k (e 0) h) := by kernel_rfl
def SF185 : SF := sf1 sK185
theorem so185 : SOK IP 185 SF185 := sok1 ir185 rfl (by kernel_rfl) (by kernel_rfl) fun C k x0 h => congrFun (congrFun (sp185 C k) _) h
def sQ186 (C : CT) (k : Nat) : QT := QrS k rs186
def sQ186_1 (C : CT) (k : Nat) : QT := (sQ186 C k)
def sT186_2 (C : CT) (k : Nat) (x0 x1 x2 x3 x5 x55 x59 : S) (h : SH) : Tree := (kL k x59 h fun v2 h3 => (kB k (fun h10 => sBld z16 [(0, 1, (l64 2)), (2, 1, v2), (11, 1, x2), (13, 1, x3), (14, 1, x5)]) (fun v11 h12 => (kK (C 91 [x55, v11] h12) (fun v14 h15 => (kK (C 207 [x0, x1] h15) (fun v21 h22 => (Tree.leaf (S.tup []) h22)))))) h3))
def sK186_1 (C : CT) (k : Nat) (x0 x1 x2 x3 x5 : S) (h : SH) : Tree := (kN k x1 h fun v6 h7 => (kF k 0 v6 h7 fun v9 h10 => (kF k 5 v9 h10 fun v12 h13 => (sT186_2 C k x0 x1 x2 x3 x5 x0 v12 h13))))
def sJ186_1 (C : CT) (k : Nat) : ES → SH → Tree := fun e h => (sK186_1 C k (e 0) (e 1) (e 2) (e 3) (e 5) h)
theorem sp186_1 (C : CT) (k : Nat) : ds C k c186_1 (sQ186_1 C k) = (sJ186_1 C k) := by kernel_rfl
def sT186_3 (C : CT) (k : Nat) (x0 x1 x2 x3 x5 x53 : S) (h : SH) : Tree := (kK (C 234 [x53] h) (fun v2 h3 => (sK186_1 C k x0 x1 x2 x3 x5 h3)))
def sT186_4 (C : CT) (k : Nat) (x0 x1 x2 x3 x5 : S) (h : SH) : Tree := (kN k x0 h fun v4 h5 => (kF k 32 v4 h5 fun v7 h8 => (kL k v7 h8 fun v10 h11 => (sT186_3 C k x0 x1 x2 x3 x5 v10 h11))))
def sT186_5 (C : CT) (k : Nat) (x0 x1 x2 x3 x5 x12 x41 x42 x47 : S) (h : SH) : Tree := (kK (C 197 [x41, x42, x47] h) (fun v2 h3 => (kS x12 (fun h6 => (sT186_4 C k x0 x1 x2 x3 x5 h6)) (fun h7 => (sK186_1 C k x0 x1 x2 x3 x5 h7)) h3)))
def sT186_6 (C : CT) (k : Nat) (x0 x1 x2 x3 x5 x12 x41 x42 x44 : S) (h : SH) : Tree := (kB k (gd x44 false uS (fun h1 => Res.ok x2)) (fun v2 h3 => (kB k (gd x44 false uS (fun h4 => sBin .eql v2 (l64 4) (SH.pc h4))) (fun v5 h6 => (kB k (fun h7 => sPick x44 (S.b true) v5 (SH.pc h7)) (fun v8 h9 => (sT186_5 C k x0 x1 x2 x3 x5 x12 x41 x42 v8 h9)) h6)) h3)) h)
def sT186_7 (C : CT) (k : Nat) (x0 x1 x2 x3 x5 x12 x34 x38 : S) (h : SH) : Tree := (kL k x38 h fun v2 h3 => (kB k (fun h4 => sIa 1 x34 v2 (SH.pc h4)) (fun v5 h6 => (kL k v5 h6 fun v8 h9 => (sT186_6 C k x0 x1 x2 x3 x5 x12 v8 x5 x12 h9))) h3))
def sT186_8 (C : CT) (k : Nat) (x0 x1 x2 x3 x5 x12 x34 x35 : S) (h : SH) : Tree := (kN k x35 h fun v2 h3 => (kF k 0 v2 h3 fun v5 h6 => (kF k 2 v5 h6 fun v8 h9 => (sT186_7 C k x0 x1 x2 x3 x5 x12 x34 v8 h9))))
def sT186_9 (C : CT) (k : Nat) (x0 x1 x2 x3 x5 x27 x29 : S) (h : SH) : Tree := (kB k (fun h1 => sPick x27 (S.b true) x29 (SH.pc h1)) (fun v2 h3 => (kN k x0 h3 fun v9 h10 => (kF k 31 v9 h10 fun v12 h13 => (kL k v12 h13 fun v15 h16 => (sT186_8 C k x0 x1 x2 x3 x5 v2 v15 x1 h16))))) h)
def sT186_10 (C : CT) (k : Nat) (x0 x1 x2 x3 x5 x18 x20 : S) (h : SH) : Tree := (kN k x18 h fun v2 h3 => (kF k 13 v2 h3 fun v5 h6 => (kT k 1 v5 x20 h6 fun r9 _ => (kI k .eql x2 (l64 1) r9.2 fun v13 h14 => (kB k (gd v13 false uS (fun h17 => Res.ok x2)) (fun v18 h19 => (kB k (gd v13 false uS (fun h20 => sBin .eql v18 (l64 2) (SH.pc h20))) (fun v21 h22 => (sT186_9 C k x0 x1 x2 x3 x5 v13 v21 h22)) h19)) h14)))))
def sK186 (C : CT) (k : Nat) (x0 x1 x2 x3 x4 x5 : S) (h : SH) : Tree := (kB k (fun h1 => sBox x4 h1) (fun r3 _ => (kA k 5 r3.1 r3.2 fun v9 h10 => (kK (C 208 [x0, x1, v9] h10) (fun v12 h13 => (kN k x1 h13 fun v23 h24 => (kF k 12 v23 h24 fun v26 h27 => (kT k 1 v26 x2 h27 fun r30 _ => (sT186_10 C k x0 x1 x2 x3 x5 x1 x3 r30.2)))))))) h)
theorem sp186 (C : CT) (k : Nat) : ds C k c186 (sQ186 C k) = fun e h => (sK186 C k (e 0) (e 1) (e 2) (e 3) (e 4) (e 5) h) := by
  refine Eq.trans (sseq_eq (sseq_eq (sseq_eq (sseq_eq (sseq_eq (sseq_eq (sp186_1 C k) rfl) rfl) rfl) rfl) rfl) rfl) ?_
  kernel_rfl
def SF186 : SF := sf6 sK186
theorem so186 : SOK IP 186 SF186 := sok6 ir186 rfl (by kernel_rfl) (by kernel_rfl) fun C k x0 x1 x2 x3 x4 x5 h => congrFun (congrFun (sp186 C k) _) h
def sQ187 (C : CT) (k : Nat) : QT := QrS k rs187
def sT187_1 (C : CT) (k : Nat) (x129 : S) (h : SH) : Tree := (kF k 0 x129 h fun v2 h3 => (kT k 1 v2 (l64 2) h3 fun r6 _ => (Tree.leaf (S.tup []) r6.2)))
def sT187_2 (C : CT) (k : Nat) (x123 x124 x127 : S) (h : SH) : Tree := (kT k 1 x127 x124 h fun r3 _ => (kN k x123 r3.2 fun v5 h6 => (kF k 35 v5 h6 fun v8 h9 => (sT187_1 C k v8 h9))))
def sT187_3 (C : CT) (k : Nat) (x0 x1 x4 x115 : S) (h : SH) : Tree := (kF k 1 x4 h fun v2 h3 => (kL k v2 h3 fun v5 h6 => (kK (C 196 [x115, v5] h6) (fun v8 h9 => (kK (C 188 [x0, (l64 7), (S.i .u32 (.lit 0)), x1] h9) (fun v15 h16 => (Tree.leaf (S.tup []) h16)))))))
def sT187_4 (C : CT) (k : Nat) (x0 x1 x4 x5 : S) (h : SH) : Tree := (kN k x0 h fun v4 h5 => (kF k 28 v4 h5 fun v7 h8 => (kL k v7 h8 fun v10 h11 => (kK (C 44 [(l64 0), (l64 0)] h11) (fun v15 h16 => (kK (C 241 [v10, x5, v15] h16) (fun v18 h19 => (kC (stdyS false 1 v7 h11 h16) (kN k x0 h19 fun v23 h24 => (kF k 30 v23 h24 fun v26 h27 => (kL k v26 h27 fun v29 h30 => (sT187_3 C k x0 x1 x4 v29 h30))))))))))))
def sT187_5 (C : CT) (k : Nat) (x0 x1 x4 x5 x100 : S) (h : SH) : Tree := (kL k x100 h fun v2 h3 => (kK (C 240 [v2, x1] h3) (fun v7 h8 => (kB k (fun h9 => sUn .not v7 (SH.pc h9)) (fun v10 h11 => (kS v10 (fun h12 => (sT187_4 C k x0 x1 x4 x5 h12)) (fun h13 => (kN k x0 h13 fun v21 h22 => (kF k 35 v21 h22 fun v24 h25 => (kF k 8 v24 h25 fun v27 h28 => (sT187_2 C k x0 x5 v27 h28))))) h11)) h8))))
def sT187_6 (C : CT) (k : Nat) (x0 x1 x4 x5 x97 : S) (h : SH) : Tree := (kF k 1 x4 h fun v2 h3 => (kL k v2 h3 fun v5 h6 => (kB k (fun h7 => sIa 1 x97 v5 (SH.pc h7)) (fun v8 h9 => (sT187_5 C k x0 x1 x4 x5 v8 h9)) h6)))
def sT187_7 (C : CT) (k : Nat) (x0 x1 x4 x87 : S) (h : SH) : Tree := (kF k 1 x4 h fun v2 h3 => (kL k v2 h3 fun v5 h6 => (kK (C 196 [x87, v5] h6) (fun v8 h9 => (kK (C 188 [x0, (l64 6), (S.i .u32 (.lit 0)), x1] h9) (fun v15 h16 => (Tree.leaf (S.tup []) h16)))))))
def sT187_8 (C : CT) (k : Nat) (x0 x1 x4 : S) (h : SH) : Tree := (kN k x0 h fun v4 h5 => (kF k 30 v4 h5 fun v7 h8 => (kL k v7 h8 fun v10 h11 => (sT187_7 C k x0 x1 x4 v10 h11))))
def sT187_9 (C : CT) (k : Nat) (x0 x1 x4 x78 : S) (h : SH) : Tree := (kK (C 239 [x78] h) (fun v2 h3 => (kX k v2 0 h3 fun v7 h8 => (kX k v2 1 h8 fun v10 h11 => (kB k (fun h18 => sUn .not v10 (SH.pc h18)) (fun v19 h20 => (kS v19 (fun h21 => (sT187_8 C k x0 x1 x4 h21)) (fun h22 => (kN k x0 h22 fun v26 h27 => (kF k 31 v26 h27 fun v29 h30 => (kL k v29 h30 fun v32 h33 => (sT187_6 C k x0 x1 x4 v7 v32 h33))))) h20)) h11)))))
def sT187_10 (C : CT) (k : Nat) (x0 x1 : S) (h : SH) : Tree := (kK (C 188 [x0, (l64 8), (S.i .u32 (.lit 0)), x1] h) (fun v6 h7 => (Tree.leaf (S.tup []) h7)))
def sT187_11 (C : CT) (k : Nat) (x0 x1 x4 x69 : S) (h : SH) : Tree := (kB k (fun h1 => sUn .not x69 (SH.pc h1)) (fun v2 h3 => (kS v2 (fun h4 => (sT187_10 C k x0 x1 h4)) (fun h5 => (kN k x0 h5 fun v9 h10 => (kF k 28 v9 h10 fun v12 h13 => (kL k v12 h13 fun v15 h16 => (sT187_9 C k x0 x1 x4 v15 h16))))) h3)) h)
def sT187_12 (C : CT) (k : Nat) (x0 x1 x4 x66 : S) (h : SH) : Tree := (kF k 1 x4 h fun v2 h3 => (kL k v2 h3 fun v5 h6 => (kK (C 238 [x66, v5] h6) (fun v8 h9 => (sT187_11 C k x0 x1 x4 v8 h9)))))
def sT187_13 (C : CT) (k : Nat) (x0 x1 : S) (h : SH) : Tree := (kK (C 188 [x0, (l64 3), (S.i .u32 (.lit 0)), x1] h) (fun v6 h7 => (Tree.leaf (S.tup []) h7)))
def sT187_14 (C : CT) (k : Nat) (x0 x1 x4 x57 : S) (h : SH) : Tree := (kK (C 237 [x57] h) (fun v2 h3 => (kB k (fun h4 => sUn .not v2 (SH.pc h4)) (fun v5 h6 => (kS v5 (fun h7 => (sT187_13 C k x0 x1 h7)) (fun h8 => (kN k x0 h8 fun v12 h13 => (kF k 30 v12 h13 fun v15 h16 => (kL k v15 h16 fun v18 h19 => (sT187_12 C k x0 x1 x4 v18 h19))))) h6)) h3)))
def sT187_15 (C : CT) (k : Nat) (x0 x1 : S) (h : SH) : Tree := (kK (C 188 [x0, (l64 1), (S.i .u32 (.lit 0)), x1] h) (fun v6 h7 => (Tree.leaf (S.tup []) h7)))
def sT187_16 (C : CT) (k : Nat) (x0 x1 x10 : S) (h : SH) : Tree := (kA k 7 x10 h fun v2 h3 => (kB k (fun h4 => sZero z13 h4) (fun r6 _ => (kT k 7 r6.1 v2 r6.2 fun r9 _ => (kF k 1 r6.1 r9.2 fun v11 h12 => (kL k v11 h12 fun v14 h15 => (kI k .lss v14 (l64 0) h15 fun v17 h18 => (kB k (gd v17 false uS (fun h21 => sFa 1 r6.1)) (fun v22 h23 => (kB k (gd v17 false uS (fun h24 => sLd1 v22 h24)) (fun v25 h26 => (kB k (gd v17 false uS (fun h27 => Res.ok x0)) (fun v28 h29 => (kB k (gd v17 false uS (fun h30 => sNilc v28)) (fun v31 h32 => (kB k (gd v17 false uS (fun h33 => sFa 19 v31)) (fun v34 h35 => (kB k (gd v17 false uS (fun h36 => sFa 0 v34)) (fun v37 h38 => (kB k (gd v17 false uS (fun h39 => sLd1 v37 h39)) (fun v40 h41 => (kB k (gd v17 false uS (fun h42 => sLens v40)) (fun v43 h44 => (kB k (gd v17 false uS (fun h45 => sBin .geq v25 v43 (SH.pc h45))) (fun v46 h47 => (kB k (fun h48 => sPick v17 (S.b true) v46 (SH.pc h48)) (fun v49 h50 => (kB k (gd v49 false uS (fun h53 => sFa 2 r6.1)) (fun v54 h55 => (kB k (gd v49 false uS (fun h56 => sLd1 v54 h56)) (fun v57 h58 => (kK (kG v49 false (fun h59 => C 235 [v57] h59) h58) (fun v60 h61 => (kB k (gd v49 false uS (fun h62 => sUn .not v60 (SH.pc h62))) (fun v63 h64 => (kB k (fun h65 => sPick v49 (S.b true) v63 (SH.pc h65)) (fun v66 h67 => (kB k (gd v66 false uS (fun h70 => Res.ok x1)) (fun v71 h72 => (kB k (gd v66 false uS (fun h73 => sFa 5 r6.1)) (fun v74 h75 => (kB k (gd v66 false uS (fun h76 => sLd1 v74 h76)) (fun v77 h78 => (kK (kG v66 false (fun h79 => C 236 [v71, v77] h79) h78) (fun v80 h81 => (kB k (fun h82 => sPick v66 (S.b true) v80 (SH.pc h82)) (fun v83 h84 => (kB k (gd v83 false uS (fun h87 => sFa 5 r6.1)) (fun v88 h89 => (kB k (gd v83 false uS (fun h90 => sLd1 v88 h90)) (fun v91 h92 => (kK (kG v83 false (fun h93 => C 128 [v91] h93) h92) (fun v94 h95 => (kB k (gd v83 false uS (fun h96 => sFa 5 r6.1)) (fun v97 h98 => (kB k (gd v83 false uS (fun h99 => sLd1 v97 h99)) (fun v100 h101 => (kB k (gd v83 false uS (fun h102 => sBin .neq v94 v100 (SH.pc h102))) (fun v103 h104 => (kB k (fun h105 => sPick v83 (S.b true) v103 (SH.pc h105)) (fun v106 h107 => (kB k (gd v106 false uS (fun h110 => sFa 5 r6.1)) (fun v111 h112 => (kB k (gd v106 false uS (fun h113 => sLd1 v111 h113)) (fun v114 h115 => (kB k (gd v106 false uS (fun h116 => sBin .eql v114 (l64 1099511627776) (SH.pc h116))) (fun v117 h118 => (kB k (fun h119 => sPick v106 (S.b true) v117 (SH.pc h119)) (fun v120 h121 => (kC (stdyGS v83 false (stdyS false 1 v97 h92 h95)) (kS v120 (fun h122 => (sT187_15 C k x0 x1 h122)) (fun h123 => (kN k x0 h123 fun v127 h128 => (kF k 29 v127 h128 fun v130 h131 => (kL k v130 h131 fun v133 h134 => (sT187_14 C k x0 x1 r6.1 v133 h134))))) h121))) h118)) h115)) h112)) h107)) h104)) h101)) h98)) h95)))) h89)) h84)) h81)))) h75)) h72)) h67)) h64)) h61)))) h55)) h50)) h47)) h44)) h41)) h38)) h35)) h32)) h29)) h26)) h23)) h18)))))) h3))
def sK187 (C : CT) (k : Nat) (x0 x1 : S) (h : SH) : Tree := (kN k x0 h fun v4 h5 => (kF k 35 v4 h5 fun v7 h8 => (kF k 1 v7 h8 fun v10 h11 => (sT187_16 C k x0 x1 v10 h11))))
theorem sp187 (C : CT) (k : Nat) : ds C k c187 (sQ187 C k) = fun e h => (sK187 C k (e 0) (e 1) h) := by kernel_rfl
def SF187 : SF := sf2 sK187
theorem so187 : SOK IP 187 SF187 := sok2 ir187 rfl (by kernel_rfl) (by kernel_rfl) fun C k x0 x1 h => congrFun (congrFun (sp187 C k) _) h
def sQ188 (C : CT) (k : Nat) : QT := QrS k rs188
def sQ188_1 (C : CT) (k : Nat) : QT := (sQ188 C k)
def sT188_2 (C : CT) (k : Nat) (x43 x45 : S) (h : SH) : Tree := (kT k 25 x45 x43 h fun r3 _ => (Tree.leaf (S.tup []) r3.2))
def sK188_1 (C : CT) (k : Nat) (x0 x8 : S) (h : SH) : Tree := (kA k 15 x8 h fun v4 h5 => (kK (C 91 [x0, v4] h5) (fun v7 h8 => (kB k (fun h11 => sBld z11 []) (fun v12 h13 => (kN k x0 h13 fun v15 h16 => (kF k 35 v15 h16 fun v18 h19 => (sT188_2 C k v12 v18 h19)))) h8))))
def sJ188_1 (C : CT) (k : Nat) : ES → SH → Tree := fun e h => (sK188_1 C k (e 0) (e 8) h)
theorem sp188_1 (C : CT) (k : Nat) : ds C k c188_1 (sQ188_1 C k) = (sJ188_1 C k) := by kernel_rfl
def sT188_3 (C : CT) (k : Nat) (x0 x8 x37 : S) (h : SH) : Tree := (kF k 11 x8 h fun v2 h3 => (kT k 1 v2 x37 h3 fun r6 _ => (sK188_1 C k x0 x8 r6.2)))
def sT188_4 (C : CT) (k : Nat) (x0 x8 x9 : S) (h : SH) : Tree := (kN k x9 h fun v4 h5 => (kF k 12 v4 h5 fun v7 h8 => (kL k v7 h8 fun v10 h11 => (sT188_3 C k x0 x8 v10 h11))))
def sT188_5 (C : CT) (k : Nat) (x0 x8 x28 : S) (h : SH) : Tree := (kF k 2 x8 h fun v2 h3 => (kL k v2 h3 fun v5 h6 => (kK (C 54 [x28, v5] h6) (fun v8 h9 => (kB k (fun h14 => sEqz true .p v8 (S.p none) (SH.pc h14)) (fun v15 h16 => (kS v15 (fun h17 => (sT188_4 C k x0 x8 v8 h17)) (fun h18 => (sK188_1 C k x0 x8 h18)) h16)) h9)))))
def sT188_6 (C : CT) (k : Nat) (x0 x15 x20 x21 x22 x23 : S) (h : SH) : Tree := (kB k (fun h1 => sBld z16 [(0, 1, (l64 1)), (2, 1, x15), (3, 7, x20), (10, 1, x21), (13, 1, x22), (14, 1, x23)]) (fun v2 h3 => (kB k (fun h4 => sZero z16 h4) (fun r6 _ => (kT k 15 r6.1 v2 r6.2 fun r9 _ => (kN k x0 r9.2 fun v13 h14 => (kF k 29 v13 h14 fun v16 h17 => (kL k v16 h17 fun v19 h20 => (sT188_5 C k x0 r6.1 v19 h20)))))) h3)) h)
def sT188_7 (C : CT) (k : Nat) (x0 x1 x2 x3 x15 x17 : S) (h : SH) : Tree := (kF k 35 x17 h fun v2 h3 => (kF k 1 v2 h3 fun v5 h6 => (kA k 7 v5 h6 fun v8 h9 => (sT188_6 C k x0 x15 v8 x1 x2 x3 h9))))
def sT188_8 (C : CT) (k : Nat) (x0 x1 x2 x3 x13 : S) (h : SH) : Tree := (kF k 6 x13 h fun v2 h3 => (kL k v2 h3 fun v5 h6 => (kN k x0 h6 fun v10 h11 => (sT188_7 C k x0 x1 x2 x3 v5 v10 h11))))
def sK188 (C : CT) (k : Nat) (x0 x1 x2 x3 : S) (h : SH) : Tree := (kN k x0 h fun v4 h5 => (kF k 35 v4 h5 fun v7 h8 => (kF k 1 v7 h8 fun v10 h11 => (sT188_8 C k x0 x1 x2 x3 v10 h11))))
theorem sp188 (C : CT) (k : Nat) : ds C k c188 (sQ188 C k) = fun e h => (sK188 C k (e 0) (e 1) (e 2) (e 3) h) := by
  refine Eq.trans (sseq_eq (sseq_eq (sp188_1 C k) rfl) rfl) ?_
  kernel_rfl
def SF188 : SF := sf4 sK188
theorem so188 : SOK IP 188 SF188 := sok4 ir188 rfl (by kernel_rfl) (by kernel_rfl) fun C k x0 x1 x2 x3 h => congrFun (congrFun (sp188 C k) _) h
def sQ189 (C : CT) (k : Nat) : QT := QrS k rs189
def sK189 (C : CT) (k : Nat) (x0 x1 x2 : S) (h : SH) : Tree := (kB k (fun h1 => sZero z12 h1) (fun r3 _ => (kB k (fun h10 => sBld z12 [(0, 1, x0), (1, 1, x1), (2, 1, x2)]) (fun v11 h12 => (kT k 5 r3.1 v11 h12 fun r15 _ => (kA k 5 r3.1 r15.2 fun v17 h18 => (Tree.leaf v17 h18)))) r3.2)) h)
theorem sp189 (C : CT) (k : Nat) : ds C k c189 (sQ189 C k) = fun e h => (sK189 C k (e 0) (e 1) (e 2) h) := by kernel_rfl
def SF189 : SF := sf3 sK189
theorem so189 : SOK IP 189 SF189 := sok3 ir189 rfl (by kernel_rfl) (by kernel_rfl) fun C k x0 x1 x2 h => congrFun (congrFun (sp189 C k) _) h
def sQ190 (C : CT) (k : Nat) : QT := QrS k rs190
def sT190_1 (C : CT) (k : Nat) (x8 : S) (h : SH) : Tree := (kL k x8 h fun v2 h3 => (Tree.leaf v2 h3))
def sK190 (C : CT) (k : Nat) (x0 : S) (h : SH) : Tree := (kB k (fun h5 => sEqz false .p x0 (S.p none) (SH.pc h5)) (fun v6 h7 => (kS v6 (fun h8 => (Tree.leaf (l64 0) h8)) (fun h9 => (kN k x0 h9 fun v15 h16 => (kF k 0 v15 h16 fun v18 h19 => (kF k 2 v18 h19 fun v21 h22 => (sT190_1 C k v21 h22))))) h7)) h)
theorem sp190 (C : CT) (k : Nat) : ds C k c190 (sQ190 C k) = fun e h => (sK190 C k (e 0) h) := by kernel_rfl
def SF190 : SF := sf1 sK190
theorem so190 : SOK IP 190 SF190 := sok1 ir190 rfl (by kernel_rfl) (by kernel_rfl) fun C k x0 h => congrFun (congrFun (sp190 C k) _) h
def sQ194 (C : CT) (k : Nat) : QT := QrS k rs194
def sQ194_1 (C : CT) (k : Nat) : QT := (sQ194 C k)
def sK194_1 (C : CT) (k : Nat) (h : SH) : Tree := (Tree.leaf (S.b false) h)
def sJ194_1 (C : CT) (k : Nat) : ES → SH → Tree := fun e h => (sK194_1 C k h)
theorem sp194_1 (C : CT) (k : Nat) : ds C k c194_1 (sQ194_1 C k) = (sJ194_1 C k) := by kernel_rfl
def sQ194_2 (C : CT) (k : Nat) : QT := (QbS 0 (QxS (sJ194_1 C k) (sQ194 C k)))
def sK194_2 (C : CT) (k : Nat) (x4 : S) (h : SH) : Tree := (kS x4 (fun h1 => (Tree.leaf (S.b true) h1)) (fun h2 => (sK194_1 C k h2)) h)
def sJ194_2 (C : CT) (k : Nat) : ES → SH → Tree := fun e h => (sK194_2 C k (e 4) h)
theorem sp194_2 (C : CT) (k : Nat) : ds C k c194_2 (sQ194_2 C k) = (sJ194_2 C k) := by kernel_rfl
def sK194 (C : CT) (k : Nat) (x0 : S) (h : SH) : Tree := (kI k .eql x0 (l64 4) h fun v6 h7 => (kS v6 (fun h10 => (sK194_2 C k v6 h10)) (fun h11 => (kI k .eql x0 (l64 5) h11 fun v13 h14 => (sK194_2 C k v13 h14))) h7))
theorem sp194 (C : CT) (k : Nat) : ds C k c194 (sQ194 C k) = fun e h => (sK194 C k (e 0) h) := by
  refine Eq.trans (sseq_eq (sseq_eq (sp194_1 C k) (sseq_eq (sblock_eq (sseq_eq (sp194_2 C k) rfl)) rfl)) rfl) ?_
  kernel_rfl
def SF194 : SF := sf1 sK194
theorem so194 : SOK IP 194 SF194 := sok1 ir194 rfl (by kernel_rfl) (by kernel_rfl) fun C k x0 h => congrFun (congrFun (sp194 C k) _) h
def sQ195 (C : CT) (k : Nat) : QT := QrS k rs195
def sT195_1 (C : CT) (k : Nat) (x0 : S) (h : SH) : Tree := (kK (C 198 [x0] h) (fun v4 h5 => (kI k .add v4 (l64 1) h5 fun v7 h8 => (kK (C 44 [v7, (l64 2)] h8) (fun v10 h11 => (Tree.leaf (S.tup [v10, (S.b true)]) h11))))))
def sT195_2 (C : CT) (k : Nat) (x0 : S) (h : SH) : Tree := (Tree.leaf (S.tup [x0, (S.b false)]) h)
def sT195_3 (C : CT) (k : Nat) (x0 x1 x11 x13 x15 : S) (h : SH) : Tree := (kB k (gd x11 false uS (fun h1 => sBin .geq x13 x15 (SH.pc h1))) (fun v2 h3 => (kB k (fun h4 => sPick x11 (S.b true) v2 (SH.pc h4)) (fun v5 h6 => (kS v5 (fun h7 => (sT195_2 C k x0 h7)) (fun h8 => (kS x1 (fun h11 => (sT195_1 C k x0 h11)) (fun h12 => (kK (C 198 [x0] h12) (fun v16 h17 => (kI k .add v16 (l64 1) h17 fun v19 h20 => (kK (C 44 [v19, (l64 1)] h20) (fun v22 h23 => (Tree.leaf (S.tup [v22, (S.b true)]) h23))))))) h8)) h6)) h3)) h)
def sT195_4 (C : CT) (k : Nat) (x0 x1 x2 x11 x12 : S) (h : SH) : Tree := (kK (kG x11 false (fun h1 => C 198 [x12] h1) h) (fun v2 h3 => (kB k (gd x11 false uS (fun h4 => Res.ok x2)) (fun v5 h6 => (kB k (gd x11 false uS (fun h7 => sMin v5 [(l64 16777215)] (SH.pc h7))) (fun v8 h9 => (sT195_3 C k x0 x1 x11 v2 v8 h9)) h6)) h3)))
def sK195 (C : CT) (k : Nat) (x0 x1 x2 : S) (h : SH) : Tree := (kK (C 245 [x0] h) (fun v8 h9 => (kI k .neq v8 (l64 0) h9 fun v11 h12 => (kB k (gd v11 false uS (fun h15 => Res.ok x0)) (fun v16 h17 => (sT195_4 C k x0 x1 x2 v11 v16 h17)) h12))))
theorem sp195 (C : CT) (k : Nat) : ds C k c195 (sQ195 C k) = fun e h => (sK195 C k (e 0) (e 1) (e 2) h) := by kernel_rfl
def SF195 : SF := sf3 sK195
theorem so195 : SOK IP 195 SF195 := sok3 ir195 rfl (by kernel_rfl) (by kernel_rfl) fun C k x0 x1 x2 h => congrFun (congrFun (sp195 C k) _) h
def sQ196 (C : CT) (k : Nat) : QT := QrS k rs196
def sT196_1 (C : CT) (k : Nat) (x29 x34 x35 : S) (h : SH) : Tree := (kF k 3 x35 h fun v2 h3 => (kB k (fun h4 => sIaa 1 4 v2 x29 (SH.pc h4)) (fun v5 h6 => (kT k 1 v5 x34 h6 fun r9 _ => (Tree.leaf (S.b true) r9.2))) h3))
def sT196_2 (C : CT) (k : Nat) (x28 x29 x32 : S) (h : SH) : Tree := (kL k x32 h fun v2 h3 => (kI k .sub v2 (l64 1) h3 fun v5 h6 => (kN k x28 h6 fun v8 h9 => (sT196_1 C k x29 v5 v8 h9))))
def sT196_3 (C : CT) (k : Nat) (x0 x1 x25 x27 : S) (h : SH) : Tree := (kT k 1 x27 x25 h fun r3 _ => (kN k x0 r3.2 fun v9 h10 => (kF k 3 v9 h10 fun v12 h13 => (kB k (fun h14 => sIaa 1 4 v12 x1 (SH.pc h14)) (fun v15 h16 => (sT196_2 C k x0 x1 v15 h16)) h13))))
def sT196_4 (C : CT) (k : Nat) (x0 x1 x21 x24 : S) (h : SH) : Tree := (kI k .sub x24 (l64 1) h fun v2 h3 => (kN k x21 h3 fun v5 h6 => (kF k 2 v5 h6 fun v8 h9 => (sT196_3 C k x0 x1 v2 v8 h9))))
def sT196_5 (C : CT) (k : Nat) (x0 x1 x12 x19 : S) (h : SH) : Tree := (kB k (fun h1 => sPick x12 (S.b true) x19 (SH.pc h1)) (fun v2 h3 => (kS v2 (fun h4 => (Tree.leaf (S.b false) h4)) (fun h5 => (kN k x0 h5 fun v11 h12 => (kF k 2 v11 h12 fun v14 h15 => (kL k v14 h15 fun v17 h18 => (sT196_4 C k x0 x1 x0 v17 h18))))) h3)) h)
def sT196_6 (C : CT) (k : Nat) (x0 x1 x12 x14 x16 : S) (h : SH) : Tree := (kB k (gd x12 false uS (fun h1 => sIaa 1 4 x16 x14 (SH.pc h1))) (fun v2 h3 => (kB k (gd x12 false uS (fun h4 => sLd1 v2 h4)) (fun v5 h6 => (kB k (gd x12 false uS (fun h7 => sBin .eql v5 (l64 0) (SH.pc h7))) (fun v8 h9 => (sT196_5 C k x0 x1 x12 v8 h9)) h6)) h3)) h)
def sT196_7 (C : CT) (k : Nat) (x0 x1 x12 x13 : S) (h : SH) : Tree := (kB k (gd x12 false uS (fun h1 => Res.ok x1)) (fun v2 h3 => (kB k (gd x12 false uS (fun h4 => sNilc x13)) (fun v5 h6 => (kB k (gd x12 false uS (fun h7 => sFa 3 v5)) (fun v8 h9 => (sT196_6 C k x0 x1 x12 v2 v8 h9)) h6)) h3)) h)
def sT196_8 (C : CT) (k : Nat) (x0 x1 x7 x9 : S) (h : SH) : Tree := (kB k (gd x7 false uS (fun h1 => sUn .not x9 (SH.pc h1))) (fun v2 h3 => (kB k (fun h4 => sPick x7 (S.b true) v2 (SH.pc h4)) (fun v5 h6 => (kB k (gd v5 false uS (fun h9 => Res.ok x0)) (fun v10 h11 => (sT196_7 C k x0 x1 v5 v10 h11)) h6)) h3)) h)
def sK196 (C : CT) (k : Nat) (x0 x1 : S) (h : SH) : Tree := (kB k (fun h5 => sEqz false .p x0 (S.p none) (SH.pc h5)) (fun v6 h7 => (kB k (gd v6 false uS (fun h10 => Res.ok x1)) (fun v11 h12 => (kK (kG v6 false (fun h13 => C 246 [v11] h13) h12) (fun v14 h15 => (sT196_8 C k x0 x1 v6 v14 h15)))) h7)) h)
theorem sp196 (C : CT) (k : Nat) : ds C k c196 (sQ196 C k) = fun e h => (sK196 C k (e 0) (e 1) h) := by kernel_rfl
def SF196 : SF := sf2 sK196
theorem so196 : SOK IP 196 SF196 := sok2 ir196 rfl (by kernel_rfl) (by kernel_rfl) fun C k x0 x1 h => congrFun (congrFun (sp196 C k) _) h
def sQ197 (C : CT) (k : Nat) : QT := QrS k rs197
def sT197_1 (C : CT) (k : Nat) (x0 x1 : S) (h : SH) : Tree := (kK (C 252 [x0, x1] h) (fun v6 h7 => (Tree.leaf (S.tup []) h7)))
def sT197_2 (C : CT) (k : Nat) (x0 x1 x18 x22 x23 : S) (h : SH) : Tree := (kK (C 251 [x22, x23] h) (fun v2 h3 => (kK (C 250 [x18, v2] h3) (fun v5 h6 => (kS v5 (fun h7 => (sT197_1 C k x0 x1 h7)) (fun h8 => (Tree.leaf (S.tup []) h8)) h6)))))
def sT197_3 (C : CT) (k : Nat) (x0 x1 x14 x15 x16 : S) (h : SH) : Tree := (kK (C 249 [x14, x15, x16] h) (fun v2 h3 => (kN k x0 h3 fun v9 h10 => (kF k 6 v9 h10 fun v12 h13 => (kL k v12 h13 fun v15 h16 => (sT197_2 C k x0 x1 x0 v15 x1 h16))))))
def sT197_4 (C : CT) (k : Nat) (x0 x1 x2 : S) (h : SH) : Tree := (kK (C 248 [x0, x1, x2] h) (fun v8 h9 => (Tree.leaf (S.tup []) h9)))
def sT197_5 (C : CT) (k : Nat) (x0 x1 x2 : S) (h : SH) : Tree := (kN k x0 h fun v4 h5 => (kF k 6 v4 h5 fun v7 h8 => (kL k v7 h8 fun v10 h11 => (sT197_3 C k x0 x1 v10 x1 x2 h11))))
def sT197_6 (C : CT) (k : Nat) (x0 x1 x2 x10 : S) (h : SH) : Tree := (kI k .eql x10 (l64 2) h fun v2 h3 => (kS v2 (fun h6 => (sT197_4 C k x0 x1 x2 h6)) (fun h7 => (sT197_5 C k x0 x1 x2 h7)) h3))
def sK197 (C : CT) (k : Nat) (x0 x1 x2 : S) (h : SH) : Tree := (kB k (fun h3 => sEqz false .p x0 (S.p none) (SH.pc h3)) (fun v4 h5 => (kS v4 (fun h6 => (Tree.leaf (S.tup []) h6)) (fun h7 => (kK (C 247 [x0, x1] h7) (fun v13 h14 => (kI k .eql v13 (l64 1) h14 fun v16 h17 => (kS v16 (fun h20 => (Tree.leaf (S.tup []) h20)) (fun h21 => (sT197_6 C k x0 x1 x2 v13 h21)) h17))))) h5)) h)
theorem sp197 (C : CT) (k : Nat) : ds C k c197 (sQ197 C k) = fun e h => (sK197 C k (e 0) (e 1) (e 2) h) := by kernel_rfl
def SF197 : SF := sf3 sK197
theorem so197 : SOK IP 197 SF197 := sok3 ir197 rfl (by kernel_rfl) (by kernel_rfl) fun C k x0 x1 x2 h => congrFun (congrFun (sp197 C k) _) h
def sQ198 (C : CT) (k : Nat) : QT := QrS k rs198
def sK198 (C : CT) (k : Nat) (x0 : S) (h : SH) : Tree := (kA k 2 (S.p (some (1, 0))) h fun v4 h5 => (kK (C 105 [v4, x0] h5) (fun v9 h10 => (kB k (fun h11 => sCvi .i64 v9 (SH.pc h11)) (fun v12 h13 => (Tree.leaf v12 h13)) h10))))
theorem sp198 (C : CT) (k : Nat) : ds C k c198 (sQ198 C k) = fun e h => (sK198 C k (e 0) h) := by kernel_rfl
def SF198 : SF := sf1 sK198
theorem so198 : SOK IP 198 SF198 := sok1 ir198 rfl (by kernel_rfl) (by kernel_rfl) fun C k x0 h => congrFun (congrFun (sp198 C k) _) h
def sQ199 (C : CT) (k : Nat) : QT := QrS k rs199
def sT199_1 (C : CT) (k : Nat) (x1 x3 x5 x8 : S) (h : SH) : Tree := (kT k 1 x8 (l64 0) h fun r3 _ => (kA k 11 x3 r3.2 fun v5 h6 => (kK (C 128 [x1] h6) (fun v10 h11 => (kA k 2 x5 h11 fun v13 h14 => (kB k (fun h15 => sBld z7 [(0, 11, v5), (11, 1, v10), (12, 2, v13)]) (fun v16 h17 => (kB k (fun h18 => sBox v16 h18) (fun r20 _ => (kC (stdyS true 11 x3 h6 h11) (kC (stdyS true 2 x5 h6 h11) (Tree.leaf r20.1 r20.2)))) h17)) h14))))))
def sK199 (C : CT) (k : Nat) (x0 x1 x2 : S) (h : SH) : Tree := (kB k (fun h1 => sBox x0 h1) (fun r3 _ => (kB k (fun h4 => sBox x2 h4) (fun r6 _ => (kF k 0 r3.1 r6.2 fun v10 h11 => (kT k 1 v10 (l64 1) h11 fun r14 _ => (kF k 6 r3.1 r14.2 fun v16 h17 => (sT199_1 C k x1 r3.1 r6.1 v16 h17))))) r3.2)) h)
theorem sp199 (C : CT) (k : Nat) : ds C k c199 (sQ199 C k) = fun e h => (sK199 C k (e 0) (e 1) (e 2) h) := by kernel_rfl
def SF199 : SF := sf3 sK199
theorem so199 : SOK IP 199 SF199 := sok3 ir199 rfl (by kernel_rfl) (by kernel_rfl) fun C k x0 x1 x2 h => congrFun (congrFun (sp199 C k) _) h
def sQ200 (C : CT) (k : Nat) : QT := QrS k rs200
def sK200 (C : CT) (k : Nat) (h : SH) : Tree := (kB k (fun h3 => sBld [(.i .i64 0), (.i .i64 0), .nsl] [(1, 1, (S.i .i64 (.lit (-1))))]) (fun v4 h5 => (kB k (fun h6 => sBox v4 h6) (fun r8 _ => (Tree.leaf r8.1 r8.2)) h5)) h)
theorem sp200 (C : CT) (k : Nat) : ds C k c200 (sQ200 C k) = fun e h => (sK200 C k h) := by kernel_rfl
def SF200 : SF := sf0 sK200
theorem so200 : SOK IP 200 SF200 := sok0 ir200 rfl (by kernel_rfl) (by kernel_rfl) fun C k  h => congrFun (congrFun (sp200 C k) _) h
def sQ201 (C : CT) (k : Nat) : QT := QrS k rs201
def sK201 (C : CT) (k : Nat) (x0 : S) (h : SH) : Tree := (kB k (fun h1 => sZero z15 h1) (fun r3 _ => (kK (C 154 [x0] r3.2) (fun v7 h8 => (kB k (fun h9 => sBld z15 [(0, 1, v7)]) (fun v10 h11 => (kT k 3 r3.1 v10 h11 fun r14 _ => (kA k 3 r3.1 r14.2 fun v16 h17 => (Tree.leaf v16 h17)))) h8)))) h)
theorem sp201 (C : CT) (k : Nat) : ds C k c201 (sQ201 C k) = fun e h => (sK201 C k (e 0) h) := by kernel_rfl
def SF201 : SF := sf1 sK201
theorem so201 : SOK IP 201 SF201 := sok1 ir201 rfl (by kernel_rfl) (by kernel_rfl) fun C k x0 h => congrFun (congrFun (sp201 C k) _) h
def sQ202 (C : CT) (k : Nat) : QT := QrS k rs202
def sT202_1 (C : CT) (k : Nat) (x1 x2 x4 x21 : S) (h : SH) : Tree := (kF k 1 x2 h fun v2 h3 => (kT k 1 v2 x21 h3 fun r6 _ => (kA k 3 x2 r6.2 fun v8 h9 => (kT k 3 x4 v8 h9 fun r14 _ => (kA k 3 x4 r14.2 fun v18 h19 => (Tree.leaf (S.tup [v18, x1]) h19))))))
def sT202_2 (C : CT) (k : Nat) (x2 x4 x7 x15 : S) (h : SH) : Tree := (kB k (fun h1 => sMax x15 [(l64 0)] (SH.pc h1)) (fun v2 h3 => (kB k (fun h4 => sMin x7 [v2] (SH.pc h4)) (fun v5 h6 => (kF k 1 x2 h6 fun v10 h11 => (kL k v10 h11 fun v13 h14 => (kI k .add v13 v5 h14 fun v18 h19 => (sT202_1 C k v5 x2 x4 v18 h19))))) h3)) h)
def sT202_3 (C : CT) (k : Nat) (x2 x4 x7 x9 x11 x12 : S) (h : SH) : Tree := (kL k x12 h fun v2 h3 => (kI k .sub x11 v2 h3 fun v5 h6 => (kI k .sub x9 v5 h6 fun v8 h9 => (sT202_2 C k x2 x4 x7 v8 h9))))
def sT202_4 (C : CT) (k : Nat) (x2 x4 x7 x9 : S) (h : SH) : Tree := (kF k 1 x2 h fun v2 h3 => (kL k v2 h3 fun v5 h6 => (kF k 2 x2 h6 fun v8 h9 => (sT202_3 C k x2 x4 x7 x9 v5 v8 h9))))
def sK202 (C : CT) (k : Nat) (x0 x1 : S) (h : SH) : Tree := (kB k (fun h1 => sBox x0 h1) (fun r3 _ => (kB k (fun h4 => sZero z15 h4) (fun r6 _ => (kB k (fun h11 => sMax x1 [(l64 0)] (SH.pc h11)) (fun v12 h13 => (kF k 0 r3.1 h13 fun v15 h16 => (kL k v15 h16 fun v18 h19 => (sT202_4 C k r3.1 r6.1 v12 v18 h19)))) r6.2)) r3.2)) h)
theorem sp202 (C : CT) (k : Nat) : ds C k c202 (sQ202 C k) = fun e h => (sK202 C k (e 0) (e 1) h) := by kernel_rfl
def SF202 : SF := sf2 sK202
theorem so202 : SOK IP 202 SF202 := sok2 ir202 rfl (by kernel_rfl) (by kernel_rfl) fun C k x0 x1 h => congrFun (congrFun (sp202 C k) _) h
def sQ203 (C : CT) (k : Nat) : QT := QrS k rs203
def sT203_1 (C : CT) (k : Nat) (x29 x30 : S) (h : SH) : Tree := (kF k 1 x30 h fun v2 h3 => (kT k 1 v2 x29 h3 fun r6 _ => (Tree.leaf (S.b true) r6.2)))
def sT203_2 (C : CT) (k : Nat) (x22 x26 x27 : S) (h : SH) : Tree := (kB k (fun h1 => sNewSl 1 [(.p none)] [(0, 1, x27)] h1) (fun r3 _ => (kB k (fun h4 => sApp 1 8 x26 r3.1 h4) (fun r6 _ => (kN k x22 r6.2 fun v8 h9 => (sT203_1 C k r6.1 v8 h9))) r3.2)) h)
def sT203_3 (C : CT) (k : Nat) (x0 x1 x12 x19 : S) (h : SH) : Tree := (kB k (gd x12 false uS (fun h1 => sEqz true .p x19 (S.p none) (SH.pc h1))) (fun v2 h3 => (kB k (fun h4 => sPick x12 (S.b true) v2 (SH.pc h4)) (fun v5 h6 => (kS v5 (fun h7 => (Tree.leaf (S.b false) h7)) (fun h8 => (kN k x0 h8 fun v16 h17 => (kF k 1 v16 h17 fun v19 h20 => (kL k v19 h20 fun v22 h23 => (sT203_2 C k x0 v22 x1 h23))))) h6)) h3)) h)
def sT203_4 (C : CT) (k : Nat) (x0 x1 x12 x13 x16 : S) (h : SH) : Tree := (kB k (gd x12 false uS (fun h1 => sFa 5 x16)) (fun v2 h3 => (kB k (gd x12 false uS (fun h4 => sLd1 v2 h4)) (fun v5 h6 => (kK (kG x12 false (fun h7 => C 54 [x13, v5] h7) h6) (fun v8 h9 => (sT203_3 C k x0 x1 x12 v8 h9)))) h3)) h)
def sT203_5 (C : CT) (k : Nat) (x0 x1 x12 x13 : S) (h : SH) : Tree := (kB k (gd x12 false uS (fun h1 => Res.ok x1)) (fun v2 h3 => (kB k (gd x12 false uS (fun h4 => sNilc v2)) (fun v5 h6 => (kB k (gd x12 false uS (fun h7 => sFa 0 v5)) (fun v8 h9 => (sT203_4 C k x0 x1 x12 x13 v8 h9)) h6)) h3)) h)
def sT203_6 (C : CT) (k : Nat) (x0 x1 x7 x9 : S) (h : SH) : Tree := (kB k (gd x7 false uS (fun h1 => sUn .not x9 (SH.pc h1))) (fun v2 h3 => (kB k (fun h4 => sPick x7 (S.b true) v2 (SH.pc h4)) (fun v5 h6 => (kB k (gd v5 false uS (fun h9 => Res.ok x0)) (fun v10 h11 => (sT203_5 C k x0 x1 v5 v10 h11)) h6)) h3)) h)
def sK203 (C : CT) (k : Nat) (x0 x1 : S) (h : SH) : Tree := (kB k (fun h5 => sEqz false .p x1 (S.p none) (SH.pc h5)) (fun v6 h7 => (kB k (gd v6 false uS (fun h10 => Res.ok x0)) (fun v11 h12 => (kK (kG v6 false (fun h13 => C 237 [v11] h13) h12) (fun v14 h15 => (sT203_6 C k x0 x1 v6 v14 h15)))) h7)) h)
theorem sp203 (C : CT) (k : Nat) : ds C k c203 (sQ203 C k) = fun e h => (sK203 C k (e 0) (e 1) h) := by kernel_rfl
def SF203 : SF := sf2 sK203
theorem so203 : SOK IP 203 SF203 := sok2 ir203 rfl (by kernel_rfl) (by kernel_rfl) fun C k x0 x1 h => congrFun (congrFun (sp203 C k) _) h
def sQ204 (C : CT) (k : Nat) : QT := QrS k rs204
def sT204_1 (C : CT) (k : Nat) (x2 x19 : S) (h : SH) : Tree := (kT k 11 x2 x19 h fun r3 _ => (kA k 11 x2 r3.2 fun v7 h8 => (Tree.leaf (S.tup [v7, (S.b true)]) h8)))
def sT204_2 (C : CT) (k : Nat) (x1 x2 x16 : S) (h : SH) : Tree := (kF k 0 x1 h fun v2 h3 => (kL k v2 h3 fun v5 h6 => (kK (C 253 [x16, v5] h6) (fun v8 h9 => (sT204_1 C k x2 v8 h9)))))
def sT204_3 (C : CT) (k : Nat) (x1 x2 x9 x11 x13 : S) (h : SH) : Tree := (kF k 4 x1 h fun v2 h3 => (kL k v2 h3 fun v5 h6 => (kB k (fun h7 => sBld z9 [(0, 1, (l64 9)), (1, 1, x9), (3, 1, x11), (4, 1, x13), (6, 1, v5)]) (fun v8 h9 => (sT204_2 C k x1 x2 v8 h9)) h6)))
def sT204_4 (C : CT) (k : Nat) (x1 x2 x9 x10 : S) (h : SH) : Tree := (kL k x10 h fun v2 h3 => (kF k 3 x1 h3 fun v5 h6 => (kL k v5 h6 fun v8 h9 => (sT204_3 C k x1 x2 x9 v2 v8 h9))))
def sT204_5 (C : CT) (k : Nat) (x2 : S) (h : SH) : Tree := (kB k (fun h1 => sBld z9 []) (fun v2 h3 => (kT k 11 x2 v2 h3 fun r6 _ => (kA k 11 x2 r6.2 fun v10 h11 => (Tree.leaf (S.tup [v10, (S.b false)]) h11)))) h)
def sK204 (C : CT) (k : Nat) (x0 : S) (h : SH) : Tree := (kB k (fun h1 => sBox x0 h1) (fun r3 _ => (kB k (fun h4 => sZero z9 h4) (fun r6 _ => (kA k 5 r3.1 r6.2 fun v10 h11 => (kK (C 220 [v10] h11) (fun v13 h14 => (kB k (fun h15 => sUn .not v13 (SH.pc h15)) (fun v16 h17 => (kS v16 (fun h18 => (sT204_5 C k r6.1 h18)) (fun h19 => (kF k 1 r3.1 h19 fun v21 h22 => (kL k v21 h22 fun v24 h25 => (kF k 2 r3.1 h25 fun v27 h28 => (sT204_4 C k r3.1 r6.1 v24 v27 h28))))) h17)) h14))))) r3.2)) h)
theorem sp204 (C : CT) (k : Nat) : ds C k c204 (sQ204 C k) = fun e h => (sK204 C k (e 0) h) := by kernel_rfl
def SF204 : SF := sf1 sK204
theorem so204 : SOK IP 204 SF204 := sok1 ir204 rfl (by kernel_rfl) (by kernel_rfl) fun C k x0 h => congrFun (congrFun (sp204 C k) _) h
def sQ205 (C : CT) (k : Nat) : QT := QrS k rs205
def sT205_1 (C : CT) (k : Nat) (x0 x1 x7 x12 : S) (h : SH) : Tree := (kB k (fun h1 => sPick x7 (S.b true) x12 (SH.pc h1)) (fun v2 h3 => (kS v2 (fun h4 => (Tree.leaf S.nsl h4)) (fun h5 => (kK (C 254 [x0, x1] h5) (fun v13 h14 => (kK (C 255 [x0] h14) (fun v18 h19 => (kB k (fun h20 => sApp 17 128 v13 v18 h20) (fun r22 _ => (Tree.leaf r22.1 r22.2)) h19)))))) h3)) h)
def sT205_2 (C : CT) (k : Nat) (x0 x1 x7 x9 : S) (h : SH) : Tree := (kB k (gd x7 false uS (fun h1 => sFa 14 x9)) (fun v2 h3 => (kB k (gd x7 false uS (fun h4 => sLd1 v2 h4)) (fun v5 h6 => (kB k (gd x7 false uS (fun h7 => sBin .gtr v5 (l64 0) (SH.pc h7))) (fun v8 h9 => (sT205_1 C k x0 x1 x7 v8 h9)) h6)) h3)) h)
def sK205 (C : CT) (k : Nat) (x0 x1 : S) (h : SH) : Tree := (kB k (fun h5 => sEqz false .p x0 (S.p none) (SH.pc h5)) (fun v6 h7 => (kB k (gd v6 false uS (fun h10 => Res.ok x0)) (fun v11 h12 => (kB k (gd v6 false uS (fun h13 => sNilc v11)) (fun v14 h15 => (sT205_2 C k x0 x1 v6 v14 h15)) h12)) h7)) h)
theorem sp205 (C : CT) (k : Nat) : ds C k c205 (sQ205 C k) = fun e h => (sK205 C k (e 0) (e 1) h) := by kernel_rfl
def SF205 : SF := sf2 sK205
theorem so205 : SOK IP 205 SF205 := sok2 ir205 rfl (by kernel_rfl) (by kernel_rfl) fun C k x0 x1 h => congrFun (congrFun (sp205 C k) _) h
def sQ206 (C : CT) (k : Nat) : QT := QrS k rs206
def sQ206_1 (C : CT) (k : Nat) : QT := (sQ206 C k)
def sK206_1 (C : CT) (k : Nat) (h : SH) : Tree := (Tree.leaf (S.b false) h)
def sJ206_1 (C : CT) (k : Nat) : ES → SH → Tree := fun e h => (sK206_1 C k h)
theorem sp206_1 (C : CT) (k : Nat) : ds C k c206_1 (sQ206_1 C k) = (sJ206_1 C k) := by kernel_rfl
def sR206_2 (C : CT) (k : Nat) : QT := (QbS 0 (QxS (sJ206_1 C k) (sQ206 C k)))
def sQ206_2 (C : CT) (k : Nat) (g206_2 : S → S → S → S → SH → Tree) : QT := QxS (fun e h => g206_2 (e 0) (e 9) (e 10) (e 11) h) (sR206_2 C k)
def sQ206_3 (C : CT) (k : Nat) (g206_2 : S → S → S → S → SH → Tree) : QT := (sQ206_2 C k g206_2)
def sK206_3 (C : CT) (k : Nat) (g206_2 : S → S → S → S → SH → Tree) (x0 x9 x10 x11 : S) (h : SH) : Tree := (kI k .add x11 (l64 1) h fun v2 h3 => (g206_2 x0 x9 x10 v2 h3))
def sJ206_3 (C : CT) (k : Nat) (g206_2 : S → S → S → S → SH → Tree) : ES → SH → Tree := fun e h => (sK206_3 C k g206_2 (e 0) (e 9) (e 10) (e 11) h)
theorem sp206_3 (C : CT) (k : Nat) (g206_2 : S → S → S → S → SH → Tree) : ds C k c206_3 (sQ206_3 C k g206_2) = (sJ206_3 C k g206_2) := by kernel_rfl
def sT206_4 (C : CT) (k : Nat) (g206_2 : S → S → S → S → SH → Tree) (x0 x6 x9 x10 x11 x22 : S) (h : SH) : Tree := (kF k 1 x6 h fun v2 h3 => (kA k 11 v2 h3 fun v5 h6 => (kK (C 244 [x22, v5] h6) (fun v8 h9 => (sK206_3 C k g206_2 x0 x9 x10 x11 h9)))))
def sT206_5 (C : CT) (k : Nat) (g206_2 : S → S → S → S → SH → Tree) (x0 x7 x9 x10 x11 x38 : S) (h : SH) : Tree := (kA k 11 x7 h fun v2 h3 => (kK (C 244 [x38, v2] h3) (fun v5 h6 => (sK206_3 C k g206_2 x0 x9 x10 x11 h6))))
def sT206_6 (C : CT) (k : Nat) (g206_2 : S → S → S → S → SH → Tree) (x0 x7 x9 x10 x11 : S) (h : SH) : Tree := (kN k x0 h fun v4 h5 => (kF k 33 v4 h5 fun v7 h8 => (kL k v7 h8 fun v10 h11 => (sT206_5 C k g206_2 x0 x7 x9 x10 x11 v10 h11))))
def sT206_7 (C : CT) (k : Nat) (g206_2 : S → S → S → S → SH → Tree) (x0 x7 x9 x10 x11 x32 x33 : S) (h : SH) : Tree := (kT k 11 x7 x32 h fun r3 _ => (kS x33 (fun h8 => (sT206_6 C k g206_2 x0 x7 x9 x10 x11 h8)) (fun h9 => (sK206_3 C k g206_2 x0 x9 x10 x11 h9)) r3.2))
def sT206_8 (C : CT) (k : Nat) (g206_2 : S → S → S → S → SH → Tree) (x0 x9 x10 x11 x28 : S) (h : SH) : Tree := (kX k x28 0 h fun v2 h3 => (kX k x28 1 h3 fun v5 h6 => (kB k (fun h7 => sZero z9 h7) (fun r9 _ => (sT206_7 C k g206_2 x0 r9.1 x9 x10 x11 v2 v5 r9.2)) h6)))
def sT206_9 (C : CT) (k : Nat) (g206_2 : S → S → S → S → SH → Tree) (x0 x6 x9 x10 x11 : S) (h : SH) : Tree := (kF k 12 x6 h fun v2 h3 => (kA k 5 v2 h3 fun v5 h6 => (kK (C 204 [v5] h6) (fun v8 h9 => (sT206_8 C k g206_2 x0 x9 x10 x11 v8 h9)))))
def sT206_10 (C : CT) (k : Nat) (g206_2 : S → S → S → S → SH → Tree) (x0 x9 x10 x11 x16 : S) (h : SH) : Tree := (kI k .eql x16 (l64 3) h fun v2 h3 => (kS v2 (fun h6 => (Tree.leaf (S.b true) h6)) (fun h7 => (sK206_3 C k g206_2 x0 x9 x10 x11 h7)) h3))
def sT206_11 (C : CT) (k : Nat) (g206_2 : S → S → S → S → SH → Tree) (x0 x6 x9 x10 x11 : S) (h : SH) : Tree := (kN k x0 h fun v4 h5 => (kF k 33 v4 h5 fun v7 h8 => (kL k v7 h8 fun v10 h11 => (sT206_4 C k g206_2 x0 x6 x9 x10 x11 v10 h11))))
def sT206_12 (C : CT) (k : Nat) (g206_2 : S → S → S → S → SH → Tree) (x0 x6 x9 x10 x11 x16 : S) (h : SH) : Tree := (kI k .eql x16 (l64 2) h fun v2 h3 => (kS v2 (fun h6 => (sT206_9 C k g206_2 x0 x6 x9 x10 x11 h6)) (fun h7 => (sT206_10 C k g206_2 x0 x9 x10 x11 x16 h7)) h3))
def sT206_13 (C : CT) (k : Nat) (g206_2 : S → S → S → S → SH → Tree) (x0 x6 x9 x10 x11 x14 : S) (h : SH) : Tree := (kT k 17 x6 x14 h fun r3 _ => (kF k 0 x6 r3.2 fun v5 h6 => (kL k v5 h6 fun v8 h9 => (kI k .eql v8 (l64 1) h9 fun v11 h12 => (kS v11 (fun h15 => (sT206_11 C k g206_2 x0 x6 x9 x10 x11 h15)) (fun h16 => (sT206_12 C k g206_2 x0 x6 x9 x10 x11 v8 h16)) h12)))))
def sL206_2 (C : CT) (k : Nat) (g206_2 : S → S → S → S → SH → Tree) (x0 x9 x10 x11 : S) (h : SH) : Tree := (kI k .lss x11 x10 h fun v2 h3 => (kS v2 (fun h4 => (kB k (fun h6 => sIa 17 x9 x11 (SH.pc h6)) (fun v7 h8 => (kA k 17 v7 h8 fun v10 h11 => (kB k (fun h12 => sZero z4 h12) (fun r14 _ => (sT206_13 C k g206_2 x0 r14.1 x9 x10 x11 v10 r14.2)) h11))) h4)) (fun h5 => (sK206_1 C k h5)) h3))
theorem sp206_2 (C : CT) (k : Nat) (g206_2 : S → S → S → S → SH → Tree) : ds C k c206_2 (sQ206_2 C k g206_2) = fun e h => (sL206_2 C k g206_2 (e 0) (e 9) (e 10) (e 11) h) := by
  refine Eq.trans (sseq_eq (sseq_eq (sseq_eq (sp206_3 C k g206_2) rfl) rfl) rfl) ?_
  kernel_rfl
def sW206_2 (C : CT) (k : Nat) (x0 x9 x10 x11 : S) (h : SH) : Tree := kFix k (fun (g : S × S × S × S × Unit → SH → Tree) (x : S × S × S × S × Unit) h => sL206_2 C k (fun y0 y9 y10 y11 h => g (y0, y9, y10, y11, ()) h) x.1 x.2.1 x.2.2.1 x.2.2.2.1 h) (x0, x9, x10, x11, ()) h
theorem sn206_2 (C : CT) (k : Nat) : ∀ g : S × S × S × S × Unit → SH → Tree, ds C k c206_2 (QxS (fun e h => g ((fun e : ES => ((e 0, e 9, e 10, e 11, ()) : S × S × S × S × Unit)) e) h) (sR206_2 C k)) = fun e h => (fun (g : S × S × S × S × Unit → SH → Tree) (x : S × S × S × S × Unit) h => sL206_2 C k (fun y0 y9 y10 y11 h => g (y0, y9, y10, y11, ()) h) x.1 x.2.1 x.2.2.1 x.2.2.2.1 h) g ((fun e : ES => ((e 0, e 9, e 10, e 11, ()) : S × S × S × S × Unit)) e) h := fun g => sp206_2 C k (fun y0 y9 y10 y11 h => g (y0, y9, y10, y11, ()) h)
theorem sw206_2 (C : CT) (k : Nat) : ds C k (.loop c206_2) (sR206_2 C k) = fun e h => (sW206_2 C k (e 0) (e 9) (e 10) (e 11) h) := sloop_eq (fun e : ES => ((e 0, e 9, e 10, e 11, ()) : S × S × S × S × Unit)) (fun (g : S × S × S × S × Unit → SH → Tree) (x : S × S × S × S × Unit) h => sL206_2 C k (fun y0 y9 y10 y11 h => g (y0, y9, y10, y11, ()) h) x.1 x.2.1 x.2.2.1 x.2.2.2.1 h) (sn206_2 C k)
def sK206 (C : CT) (k : Nat) (x0 x1 : S) (h : SH) : Tree := (kB k (fun h5 => sLens x1) (fun v6 h7 => (sW206_2 C k x0 x1 v6 (l64 0) h7)) h)
theorem sp206 (C : CT) (k : Nat) : ds C k c206 (sQ206 C k) = fun e h => (sK206 C k (e 0) (e 1) h) := by
  refine Eq.trans (sseq_eq (sseq_eq (sp206_1 C k) (sseq_eq (sblock_eq (sw206_2 C k)) rfl)) rfl) ?_
  kernel_rfl
def SF206 : SF := sf2 sK206
theorem so206 : SOK IP 206 SF206 := sok2 ir206 rfl (by kernel_rfl) (by kernel_rfl) fun C k x0 x1 h => congrFun (congrFun (sp206 C k) _) h
def sQ207 (C : CT) (k : Nat) : QT := QrS k rs207
def sQ207_1 (C : CT) (k : Nat) : QT := (sQ207 C k)
def sT207_2 (C : CT) (k : Nat) (x4 x55 : S) (h : SH) : Tree := (kA k 11 x4 h fun v2 h3 => (kK (C 244 [x55, v2] h3) (fun v5 h6 => (Tree.leaf (S.tup []) h6))))
def sK207_1 (C : CT) (k : Nat) (x0 x4 : S) (h : SH) : Tree := (kF k 0 x4 h fun v2 h3 => (kT k 1 v2 (l64 8) h3 fun r6 _ => (kN k x0 r6.2 fun v10 h11 => (kF k 33 v10 h11 fun v13 h14 => (kL k v13 h14 fun v16 h17 => (sT207_2 C k x4 v16 h17))))))
def sJ207_1 (C : CT) (k : Nat) : ES → SH → Tree := fun e h => (sK207_1 C k (e 0) (e 4) h)
theorem sp207_1 (C : CT) (k : Nat) : ds C k c207_1 (sQ207_1 C k) = (sJ207_1 C k) := by kernel_rfl
def sT207_3 (C : CT) (k : Nat) (x0 x4 x48 : S) (h : SH) : Tree := (kA k 11 x4 h fun v2 h3 => (kK (C 244 [x48, v2] h3) (fun v5 h6 => (sK207_1 C k x0 x4 h6))))
def sT207_4 (C : CT) (k : Nat) (x0 x4 : S) (h : SH) : Tree := (kF k 0 x4 h fun v2 h3 => (kT k 1 v2 (l64 5) h3 fun r6 _ => (kN k x0 r6.2 fun v10 h11 => (kF k 33 v10 h11 fun v13 h14 => (kL k v13 h14 fun v16 h17 => (sT207_3 C k x0 x4 v16 h17))))))
def sT207_5 (C : CT) (k : Nat) (x0 x4 x37 x42 : S) (h : SH) : Tree := (kB k (fun h1 => sPick x37 x42 (S.b false) (SH.pc h1)) (fun v2 h3 => (kS v2 (fun h4 => (sT207_4 C k x0 x4 h4)) (fun h5 => (sK207_1 C k x0 x4 h5)) h3)) h)
def sT207_6 (C : CT) (k : Nat) (x0 x4 x37 x39 : S) (h : SH) : Tree := (kB k (gd x37 true uS (fun h1 => sFa 12 x39)) (fun v2 h3 => (kB k (gd x37 true uS (fun h4 => sLd1 v2 h4)) (fun v5 h6 => (kB k (gd x37 true uS (fun h7 => sBin .neq v5 (l64 2) (SH.pc h7))) (fun v8 h9 => (sT207_5 C k x0 x4 x37 v8 h9)) h6)) h3)) h)
def sT207_7 (C : CT) (k : Nat) (x0 x1 x4 x35 : S) (h : SH) : Tree := (kI k .neq x35 (l64 1) h fun v2 h3 => (kB k (gd v2 true uS (fun h6 => Res.ok x1)) (fun v7 h8 => (kB k (gd v2 true uS (fun h9 => sNilc v7)) (fun v10 h11 => (sT207_6 C k x0 x4 v2 v10 h11)) h8)) h3))
def sT207_8 (C : CT) (k : Nat) (x0 x1 x4 x31 : S) (h : SH) : Tree := (kT k 1 x31 (S.i .u32 (.lit 0)) h fun r3 _ => (kN k x1 r3.2 fun v7 h8 => (kF k 12 v7 h8 fun v10 h11 => (kL k v10 h11 fun v13 h14 => (sT207_7 C k x0 x1 x4 v13 h14)))))
def sT207_9 (C : CT) (k : Nat) (x0 x1 x29 : S) (h : SH) : Tree := (kB k (fun h1 => sZero z9 h1) (fun r3 _ => (kT k 11 r3.1 x29 r3.2 fun r6 _ => (kF k 9 r3.1 r6.2 fun v8 h9 => (kT k 1 v8 (l64 0) h9 fun r12 _ => (kF k 10 r3.1 r12.2 fun v14 h15 => (sT207_8 C k x0 x1 r3.1 v14 h15)))))) h)
def sT207_10 (C : CT) (k : Nat) (x0 x1 x16 x19 : S) (h : SH) : Tree := (kB k (gd x16 false uS (fun h1 => sLd1 x19 h1)) (fun v2 h3 => (kB k (gd x16 false uS (fun h4 => sBin .eql v2 (l64 0) (SH.pc h4))) (fun v5 h6 => (kB k (fun h7 => sPick x16 (S.b true) v5 (SH.pc h7)) (fun v8 h9 => (kS v8 (fun h10 => (Tree.leaf (S.tup []) h10)) (fun h11 => (kN k x1 h11 fun v15 h16 => (kF k 21 v15 h16 fun v18 h19 => (kT k 1 v18 (S.b true) h19 fun r22 _ => (kN k x1 r22.2 fun v26 h27 => (kF k 0 v26 h27 fun v29 h30 => (kA k 11 v29 h30 fun v32 h33 => (sT207_9 C k x0 x1 v32 h33)))))))) h9)) h6)) h3)) h)
def sT207_11 (C : CT) (k : Nat) (x0 x1 x16 : S) (h : SH) : Tree := (kB k (gd x16 false uS (fun h1 => Res.ok x1)) (fun v2 h3 => (kB k (gd x16 false uS (fun h4 => sNilc v2)) (fun v5 h6 => (kB k (gd x16 false uS (fun h7 => sFa 12 v5)) (fun v8 h9 => (sT207_10 C k x0 x1 x16 v8 h9)) h6)) h3)) h)
def sT207_12 (C : CT) (k : Nat) (x0 x1 x9 x12 : S) (h : SH) : Tree := (kB k (gd x9 false uS (fun h1 => sLd1 x12 h1)) (fun v2 h3 => (kB k (gd x9 false uS (fun h4 => sUn .not v2 (SH.pc h4))) (fun v5 h6 => (kB k (fun h7 => sPick x9 (S.b true) v5 (SH.pc h7)) (fun v8 h9 => (sT207_11 C k x0 x1 v8 h9)) h6)) h3)) h)
def sT207_13 (C : CT) (k : Nat) (x0 x1 x9 : S) (h : SH) : Tree := (kB k (gd x9 false uS (fun h1 => Res.ok x1)) (fun v2 h3 => (kB k (gd x9 false uS (fun h4 => sNilc v2)) (fun v5 h6 => (kB k (gd x9 false uS (fun h7 => sFa 20 v5)) (fun v8 h9 => (sT207_12 C k x0 x1 x9 v8 h9)) h6)) h3)) h)
def sK207 (C : CT) (k : Nat) (x0 x1 : S) (h : SH) : Tree := (kN k x1 h fun v4 h5 => (kF k 19 v4 h5 fun v7 h8 => (kL k v7 h8 fun v10 h11 => (sT207_13 C k x0 x1 v10 h11))))
theorem sp207 (C : CT) (k : Nat) : ds C k c207 (sQ207 C k) = fun e h => (sK207 C k (e 0) (e 1) h) := by
  refine Eq.trans (sseq_eq (sseq_eq (sseq_eq (sseq_eq (sseq_eq (sp207_1 C k) rfl) rfl) rfl) rfl) rfl) ?_
  kernel_rfl
def SF207 : SF := sf2 sK207
theorem so207 : SOK IP 207 SF207 := sok2 ir207 rfl (by kernel_rfl) (by kernel_rfl) fun C k x0 x1 h => congrFun (congrFun (sp207 C k) _) h
def sQ208 (C : CT) (k : Nat) : QT := QrS k rs208
def sT208_1 (C : CT) (k : Nat) (x21 x25 : S) (h : SH) : Tree := (kL k x25 h fun v2 h3 => (kK (C 196 [x21, v2] h3) (fun v5 h6 => (Tree.leaf (S.tup []) h6))))
def sT208_2 (C : CT) (k : Nat) (x21 x22 : S) (h : SH) : Tree := (kN k x22 h fun v2 h3 => (kF k 0 v2 h3 fun v5 h6 => (kF k 2 v5 h6 fun v8 h9 => (sT208_1 C k x21 v8 h9))))
def sK208 (C : CT) (k : Nat) (x0 x1 x2 : S) (h : SH) : Tree := (kB k (fun h1 => sBox x2 h1) (fun r3 _ => (kN k x0 r3.2 fun v7 h8 => (kF k 28 v7 h8 fun v10 h11 => (kL k v10 h11 fun v13 h14 => (kN k x1 h14 fun v18 h19 => (kF k 0 v18 h19 fun v21 h22 => (kF k 3 v21 h22 fun v24 h25 => (kL k v24 h25 fun v27 h28 => (kA k 5 r3.1 h28 fun v30 h31 => (kK (C 256 [v30] h31) (fun v33 h34 => (kK (C 241 [v13, v27, v33] h34) (fun v36 h37 => (kC (stdyS false 1 v10 h31 h34) (kC (stdyS false 1 v24 h31 h34) (kN k x0 h37 fun v41 h42 => (kF k 30 v41 h42 fun v44 h45 => (kL k v44 h45 fun v47 h48 => (sT208_2 C k v47 x1 h48))))))))))))))))))) h)
theorem sp208 (C : CT) (k : Nat) : ds C k c208 (sQ208 C k) = fun e h => (sK208 C k (e 0) (e 1) (e 2) h) := by kernel_rfl
def SF208 : SF := sf3 sK208
theorem so208 : SOK IP 208 SF208 := sok3 ir208 rfl (by kernel_rfl) (by kernel_rfl) fun C k x0 x1 x2 h => congrFun (congrFun (sp208 C k) _) h
def sQ209 (C : CT) (k : Nat) : QT := QrS k rs209
def sT209_1 (C : CT) (k : Nat) (x15 x16 : S) (h : SH) : Tree := (kF k 1 x16 h fun v2 h3 => (kT k 1 v2 x15 h3 fun r6 _ => (Tree.leaf (S.b true) r6.2)))
def sT209_2 (C : CT) (k : Nat) (x3 x9 x13 : S) (h : SH) : Tree := (kB k (fun h1 => Res.ok (S.fn 258 [x3])) (fun v2 h3 => (kK (C 257 [x13, v2] h3) (fun v5 h6 => (kN k x9 h6 fun v8 h9 => (sT209_1 C k v5 v8 h9))))) h)
def sK209 (C : CT) (k : Nat) (x0 x1 : S) (h : SH) : Tree := (kB k (fun h1 => sBox x1 h1) (fun r3 _ => (kL k r3.1 r3.2 fun v9 h10 => (kK (C 54 [x0, v9] h10) (fun v12 h13 => (kB k (fun h14 => sEqz false .p v12 (S.p none) (SH.pc h14)) (fun v15 h16 => (kS v15 (fun h17 => (Tree.leaf (S.b false) h17)) (fun h18 => (kN k x0 h18 fun v26 h27 => (kF k 1 v26 h27 fun v29 h30 => (kL k v29 h30 fun v32 h33 => (sT209_2 C k r3.1 x0 v32 h33))))) h16)) h13))))) h)
theorem sp209 (C : CT) (k : Nat) : ds C k c209 (sQ209 C k) = fun e h => (sK209 C k (e 0) (e 1) h) := by kernel_rfl
def SF209 : SF := sf2 sK209
theorem so209 : SOK IP 209 SF209 := sok2 ir209 rfl (by kernel_rfl) (by kernel_rfl) fun C k x0 x1 h => congrFun (congrFun (sp209 C k) _) h
def sQ220 (C : CT) (k : Nat) : QT := QrS k rs220
def sT220_1 (C : CT) (k : Nat) (x46 x47 : S) (h : SH) : Tree := (kB k (gd x46 true uS (fun h1 => sLd1 x47 h1)) (fun v2 h3 => (kB k (gd x46 true uS (fun h4 => sBin .leq v2 (l64 16777215) (SH.pc h4))) (fun v5 h6 => (kB k (fun h7 => sPick x46 v5 (S.b false) (SH.pc h7)) (fun v8 h9 => (Tree.leaf v8 h9)) h6)) h3)) h)
def sT220_2 (C : CT) (k : Nat) (x1 x41 x43 : S) (h : SH) : Tree := (kB k (gd x41 true uS (fun h1 => sBin .geq x43 (l64 1) (SH.pc h1))) (fun v2 h3 => (kB k (fun h4 => sPick x41 v2 (S.b false) (SH.pc h4)) (fun v5 h6 => (kB k (gd v5 true uS (fun h9 => sFa 3 x1)) (fun v10 h11 => (sT220_1 C k v5 v10 h11)) h6)) h3)) h)
def sT220_3 (C : CT) (k : Nat) (x1 x36 x39 : S) (h : SH) : Tree := (kB k (fun h1 => sPick x36 x39 (S.b false) (SH.pc h1)) (fun v2 h3 => (kB k (gd v2 true uS (fun h6 => sFa 3 x1)) (fun v7 h8 => (kB k (gd v2 true uS (fun h9 => sLd1 v7 h9)) (fun v10 h11 => (sT220_2 C k x1 v2 v10 h11)) h8)) h3)) h)
def sT220_4 (C : CT) (k : Nat) (x1 x36 : S) (h : SH) : Tree := (kB k (gd x36 true uS (fun h1 => sFa 2 x1)) (fun v2 h3 => (kB k (gd x36 true uS (fun h4 => sLd1 v2 h4)) (fun v5 h6 => (kB k (gd x36 true uS (fun h7 => sBin .lss v5 (l64 16) (SH.pc h7))) (fun v8 h9 => (sT220_3 C k x1 x36 v8 h9)) h6)) h3)) h)
def sT220_5 (C : CT) (k : Nat) (x1 x31 x32 : S) (h : SH) : Tree := (kB k (gd x31 true uS (fun h1 => sLd1 x32 h1)) (fun v2 h3 => (kB k (gd x31 true uS (fun h4 => sBin .geq v2 (l64 0) (SH.pc h4))) (fun v5 h6 => (kB k (fun h7 => sPick x31 v5 (S.b false) (SH.pc h7)) (fun v8 h9 => (sT220_4 C k x1 v8 h9)) h6)) h3)) h)
def sT220_6 (C : CT) (k : Nat) (x1 x26 x28 : S) (h : SH) : Tree := (kB k (gd x26 true uS (fun h1 => sBin .lss x28 (l64 4) (SH.pc h1))) (fun v2 h3 => (kB k (fun h4 => sPick x26 v2 (S.b false) (SH.pc h4)) (fun v5 h6 => (kB k (gd v5 true uS (fun h9 => sFa 2 x1)) (fun v10 h11 => (sT220_5 C k x1 v5 v10 h11)) h6)) h3)) h)
def sT220_7 (C : CT) (k : Nat) (x1 x21 x24 : S) (h : SH) : Tree := (kB k (fun h1 => sPick x21 x24 (S.b false) (SH.pc h1)) (fun v2 h3 => (kB k (gd v2 true uS (fun h6 => sFa 1 x1)) (fun v7 h8 => (kB k (gd v2 true uS (fun h9 => sLd1 v7 h9)) (fun v10 h11 => (sT220_6 C k x1 v2 v10 h11)) h8)) h3)) h)
def sT220_8 (C : CT) (k : Nat) (x1 x21 : S) (h : SH) : Tree := (kB k (gd x21 true uS (fun h1 => sFa 1 x1)) (fun v2 h3 => (kB k (gd x21 true uS (fun h4 => sLd1 v2 h4)) (fun v5 h6 => (kB k (gd x21 true uS (fun h7 => sBin .geq v5 (l64 0) (SH.pc h7))) (fun v8 h9 => (sT220_7 C k x1 x21 v8 h9)) h6)) h3)) h)
def sT220_9 (C : CT) (k : Nat) (x1 x16 x17 : S) (h : SH) : Tree := (kB k (gd x16 true uS (fun h1 => sLd1 x17 h1)) (fun v2 h3 => (kB k (gd x16 true uS (fun h4 => sBin .leq v2 (l64 3) (SH.pc h4))) (fun v5 h6 => (kB k (fun h7 => sPick x16 v5 (S.b false) (SH.pc h7)) (fun v8 h9 => (sT220_8 C k x1 v8 h9)) h6)) h3)) h)
def sT220_10 (C : CT) (k : Nat) (x1 x11 x13 : S) (h : SH) : Tree := (kB k (gd x11 true uS (fun h1 => sBin .geq x13 (l64 1) (SH.pc h1))) (fun v2 h3 => (kB k (fun h4 => sPick x11 v2 (S.b false) (SH.pc h4)) (fun v5 h6 => (kB k (gd v5 true uS (fun h9 => sFa 4 x1)) (fun v10 h11 => (sT220_9 C k x1 v5 v10 h11)) h6)) h3)) h)
def sT220_11 (C : CT) (k : Nat) (x1 x6 x9 : S) (h : SH) : Tree := (kB k (fun h1 => sPick x6 x9 (S.b false) (SH.pc h1)) (fun v2 h3 => (kB k (gd v2 true uS (fun h6 => sFa 4 x1)) (fun v7 h8 => (kB k (gd v2 true uS (fun h9 => sLd1 v7 h9)) (fun v10 h11 => (sT220_10 C k x1 v2 v10 h11)) h8)) h3)) h)
def sT220_12 (C : CT) (k : Nat) (x1 x6 : S) (h : SH) : Tree := (kB k (gd x6 true uS (fun h1 => sFa 0 x1)) (fun v2 h3 => (kB k (gd x6 true uS (fun h4 => sLd1 v2 h4)) (fun v5 h6 => (kB k (gd x6 true uS (fun h7 => sBin .lss v5 (l64 1099511627776) (SH.pc h7))) (fun v8 h9 => (sT220_11 C k x1 x6 v8 h9)) h6)) h3)) h)
def sK220 (C : CT) (k : Nat) (x0 : S) (h : SH) : Tree := (kB k (fun h1 => sBox x0 h1) (fun r3 _ => (kF k 0 r3.1 r3.2 fun v7 h8 => (kL k v7 h8 fun v10 h11 => (kI k .geq v10 (l64 0) h11 fun v13 h14 => (sT220_12 C k r3.1 v13 h14))))) h)
theorem sp220 (C : CT) (k : Nat) : ds C k c220 (sQ220 C k) = fun e h => (sK220 C k (e 0) h) := by kernel_rfl
def SF220 : SF := sf1 sK220
theorem so220 : SOK IP 220 SF220 := sok1 ir220 rfl (by kernel_rfl) (by kernel_rfl) fun C k x0 h => congrFun (congrFun (sp220 C k) _) h
def sQ225 (C : CT) (k : Nat) : QT := QrS k rs225
def sT225_1 (C : CT) (k : Nat) (x8 : S) (h : SH) : Tree := (kB k (fun h1 => sLens x8) (fun v2 h3 => (Tree.leaf v2 h3)) h)
def sK225 (C : CT) (k : Nat) (x0 : S) (h : SH) : Tree := (kB k (fun h5 => sEqz false .p x0 (S.p none) (SH.pc h5)) (fun v6 h7 => (kS v6 (fun h8 => (Tree.leaf (l64 0) h8)) (fun h9 => (kN k x0 h9 fun v15 h16 => (kF k 2 v15 h16 fun v18 h19 => (kL k v18 h19 fun v21 h22 => (sT225_1 C k v21 h22))))) h7)) h)
theorem sp225 (C : CT) (k : Nat) : ds C k c225 (sQ225 C k) = fun e h => (sK225 C k (e 0) h) := by kernel_rfl
def SF225 : SF := sf1 sK225
theorem so225 : SOK IP 225 SF225 := sok1 ir225 rfl (by kernel_rfl) (by kernel_rfl) fun C k x0 h => congrFun (congrFun (sp225 C k) _) h
def sQ226 (C : CT) (k : Nat) : QT := QrS k rs226
def sT226_1 (C : CT) (k : Nat) (x21 x25 : S) (h : SH) : Tree := (kB k (gd x21 true uS (fun h1 => sBin .eql x25 (l64 0) (SH.pc h1))) (fun v2 h3 => (kB k (fun h4 => sPick x21 v2 (S.b false) (SH.pc h4)) (fun v5 h6 => (Tree.leaf v5 h6)) h3)) h)
def sT226_2 (C : CT) (k : Nat) (x21 x22 : S) (h : SH) : Tree := (kB k (gd x21 true uS (fun h1 => sNilc x22)) (fun v2 h3 => (kB k (gd x21 true uS (fun h4 => sFa 12 v2)) (fun v5 h6 => (kB k (gd x21 true uS (fun h7 => sLd1 v5 h7)) (fun v8 h9 => (sT226_1 C k x21 v8 h9)) h6)) h3)) h)
def sT226_3 (C : CT) (k : Nat) (x0 x12 x17 x18 : S) (h : SH) : Tree := (kB k (gd x12 true uS (fun h1 => sBin .eql x17 x18 (SH.pc h1))) (fun v2 h3 => (kB k (fun h4 => sPick x12 v2 (S.b false) (SH.pc h4)) (fun v5 h6 => (kB k (gd v5 true uS (fun h9 => Res.ok x0)) (fun v10 h11 => (sT226_2 C k v5 v10 h11)) h6)) h3)) h)
def sT226_4 (C : CT) (k : Nat) (x0 x2 x12 x15 : S) (h : SH) : Tree := (kB k (gd x12 true uS (fun h1 => sFa 4 x15)) (fun v2 h3 => (kB k (gd x12 true uS (fun h4 => sLd1 v2 h4)) (fun v5 h6 => (kB k (gd x12 true uS (fun h7 => sLd1 x2 h7)) (fun v8 h9 => (sT226_3 C k x0 x12 v5 v8 h9)) h6)) h3)) h)
def sT226_5 (C : CT) (k : Nat) (x0 x2 x12 : S) (h : SH) : Tree := (kB k (gd x12 true uS (fun h1 => Res.ok x0)) (fun v2 h3 => (kB k (gd x12 true uS (fun h4 => sNilc v2)) (fun v5 h6 => (kB k (gd x12 true uS (fun h7 => sFa 0 v5)) (fun v8 h9 => (sT226_4 C k x0 x2 x12 v8 h9)) h6)) h3)) h)
def sT226_6 (C : CT) (k : Nat) (x0 x1 x2 x8 : S) (h : SH) : Tree := (kL k x8 h fun v2 h3 => (kL k x1 h3 fun v5 h6 => (kI k .eql v2 v5 h6 fun v8 h9 => (sT226_5 C k x0 x2 v8 h9))))
def sK226 (C : CT) (k : Nat) (x0 x1 x2 : S) (h : SH) : Tree := (kN k x0 h fun v6 h7 => (kF k 0 v6 h7 fun v9 h10 => (kF k 3 v9 h10 fun v12 h13 => (sT226_6 C k x0 x1 x2 v12 h13))))
theorem sp226 (C : CT) (k : Nat) : ds C k c226 (sQ226 C k) = fun e h => (sK226 C k (e 0) (e 1) (e 2) h) := by kernel_rfl
def SF226 : SF := sf3 sK226
theorem so226 : SOK IP 226 SF226 := sok3 ir226 rfl (by kernel_rfl) (by kernel_rfl) fun C k x0 x1 x2 h => congrFun (congrFun (sp226 C k) _) h
def sQ227 (C : CT) (k : Nat) : QT := QrS k rs227
def sT227_1 (C : CT) (k : Nat) (x0 x1 : S) (h : SH) : Tree := (kK (C 228 [x0, x1, (l64 5), (S.i .u32 (.lit 0))] h) (fun v6 h7 => (Tree.leaf (S.tup []) h7)))
def sT227_2 (C : CT) (k : Nat) (x0 x1 x19 x23 x24 x25 : S) (h : SH) : Tree := (kK (C 280 [x23, x24, x25] h) (fun v2 h3 => (kK (C 206 [x19, v2] h3) (fun v5 h6 => (kS v5 (fun h7 => (sT227_1 C k x0 x1 h7)) (fun h8 => (Tree.leaf (S.tup []) h8)) h6)))))
def sT227_3 (C : CT) (k : Nat) (x0 x1 : S) (h : SH) : Tree := (kK (C 228 [x0, x1, (l64 3), (S.i .u32 (.lit 0))] h) (fun v6 h7 => (Tree.leaf (S.tup []) h7)))
def sT227_4 (C : CT) (k : Nat) (x0 x1 x10 x14 : S) (h : SH) : Tree := (kK (C 236 [x10, x14] h) (fun v2 h3 => (kS v2 (fun h4 => (sT227_3 C k x0 x1 h4)) (fun h5 => (Tree.leaf (S.tup []) h5)) h3)))
def sT227_5 (C : CT) (k : Nat) (x0 x1 x3 : S) (h : SH) : Tree := (kN k x1 h fun v6 h7 => (kF k 11 v6 h7 fun v9 h10 => (kL k v9 h10 fun v12 h13 => (sT227_4 C k x0 x1 x3 v12 h13))))
def sK227 (C : CT) (k : Nat) (x0 x1 x2 x3 : S) (h : SH) : Tree := (kI k .eql x2 (l64 1) h fun v4 h5 => (kS v4 (fun h6 => (sT227_5 C k x0 x1 x3 h6)) (fun h7 => (kN k x1 h7 fun v13 h14 => (kF k 14 v13 h14 fun v16 h17 => (kL k v16 h17 fun v19 h20 => (sT227_2 C k x0 x1 x0 v19 x2 x3 h20))))) h5))
theorem sp227 (C : CT) (k : Nat) : ds C k c227 (sQ227 C k) = fun e h => (sK227 C k (e 0) (e 1) (e 2) (e 3) h) := by kernel_rfl
def SF227 : SF := sf4 sK227
theorem so227 : SOK IP 227 SF227 := sok4 ir227 rfl (by kernel_rfl) (by kernel_rfl) fun C k x0 x1 x2 x3 h => congrFun (congrFun (sp227 C k) _) h
def sQ228 (C : CT) (k : Nat) : QT := QrS k rs228
def sT228_1 (C : CT) (k : Nat) (x0 x1 x14 x26 : S) (h : SH) : Tree := (kT k 1 x26 x14 h fun r3 _ => (kN k x0 r3.2 fun v9 h10 => (kF k 28 v9 h10 fun v12 h13 => (kL k v12 h13 fun v15 h16 => (kN k x1 h16 fun v20 h21 => (kF k 0 v20 h21 fun v23 h24 => (kF k 3 v23 h24 fun v26 h27 => (kL k v26 h27 fun v29 h30 => (kK (C 145 [v15, v29] h30) (fun v32 h33 => (kN k x1 h33 fun v37 h38 => (kF k 0 v37 h38 fun v40 h41 => (kF k 4 v40 h41 fun v43 h44 => (kL k v43 h44 fun v46 h47 => (kN k x0 h47 fun v51 h52 => (kF k 28 v51 h52 fun v54 h55 => (kL k v54 h55 fun v57 h58 => (kK (C 190 [v57] h58) (fun v60 h61 => (kK (C 189 [v32, v46, v60] h61) (fun v63 h64 => (kN k x0 h64 fun v66 h67 => (kF k 60 v66 h67 fun v69 h70 => (kF k 35 v69 h70 fun v72 h73 => (kT k 5 v72 v63 h73 fun r76 _ => (kC (stdyS false 1 v43 h30 h33) (kC (stdyS false 1 v43 h58 h61) (kC (stdyS false 1 v54 h30 h33) (Tree.leaf (S.tup []) r76.2)))))))))))))))))))))))))))))
def sT228_2 (C : CT) (k : Nat) (x0 x1 x11 x14 : S) (h : SH) : Tree := (kN k x11 h fun v2 h3 => (kF k 60 v2 h3 fun v5 h6 => (kF k 42 v5 h6 fun v8 h9 => (sT228_1 C k x0 x1 x14 v8 h9))))
def sT228_3 (C : CT) (k : Nat) (x0 x1 x11 x13 x14 x21 : S) (h : SH) : Tree := (kF k 60 x21 h fun v2 h3 => (kF k 41 v2 h3 fun v5 h6 => (kT k 1 v5 x13 h6 fun r9 _ => (sT228_2 C k x0 x1 x11 x14 r9.2))))
def sT228_4 (C : CT) (k : Nat) (x0 x1 x10 x11 x12 x13 x14 x19 : S) (h : SH) : Tree := (kF k 40 x19 h fun v2 h3 => (kT k 1 v2 x12 h3 fun r6 _ => (kN k x10 r6.2 fun v8 h9 => (sT228_3 C k x0 x1 x11 x13 x14 v8 h9))))
def sT228_5 (C : CT) (k : Nat) (x0 x1 x9 x10 x11 x12 x13 x14 x17 : S) (h : SH) : Tree := (kT k 1 x17 (l64 3) h fun r3 _ => (kN k x9 r3.2 fun v5 h6 => (kF k 60 v5 h6 fun v8 h9 => (sT228_4 C k x0 x1 x10 x11 x12 x13 x14 v8 h9))))
def sK228 (C : CT) (k : Nat) (x0 x1 x2 x3 : S) (h : SH) : Tree := (kN k x0 h fun v16 h17 => (kF k 60 v16 h17 fun v19 h20 => (kF k 0 v19 h20 fun v22 h23 => (sT228_5 C k x0 x1 x0 x0 x0 x1 x2 x3 v22 h23))))
theorem sp228 (C : CT) (k : Nat) : ds C k c228 (sQ228 C k) = fun e h => (sK228 C k (e 0) (e 1) (e 2) (e 3) h) := by kernel_rfl
def SF228 : SF := sf4 sK228
theorem so228 : SOK IP 228 SF228 := sok4 ir228 rfl (by kernel_rfl) (by kernel_rfl) fun C k x0 x1 x2 x3 h => congrFun (congrFun (sp228 C k) _) h
def sQ232 (C : CT) (k : Nat) : QT := QrS k rs232
def sT232_1 (C : CT) (k : Nat) (x9 x13 x16 : S) (h : SH) : Tree := (kB k (gd x9 true uS (fun h1 => sPick x13 (S.b true) x16 (SH.pc h1))) (fun v2 h3 => (kB k (fun h4 => sPick x9 v2 (S.b false) (SH.pc h4)) (fun v5 h6 => (Tree.leaf v5 h6)) h3)) h)
def sT232_2 (C : CT) (k : Nat) (x0 x9 x13 : S) (h : SH) : Tree := (kB k (gd x13 false uS (fun h1 => Res.ok x0)) (fun v2 h3 => (kK (kG x13 false (fun h4 => C 245 [v2] h4) h3) (fun v5 h6 => (kB k (gd x13 false uS (fun h7 => sBin .eql v5 (l64 2) (SH.pc h7))) (fun v8 h9 => (sT232_1 C k x9 x13 v8 h9)) h6)))) h)
def sT232_3 (C : CT) (k : Nat) (x0 x9 x10 : S) (h : SH) : Tree := (kK (kG x9 true (fun h1 => C 245 [x10] h1) h) (fun v2 h3 => (kB k (gd x9 true uS (fun h4 => sBin .eql v2 (l64 1) (SH.pc h4))) (fun v5 h6 => (kB k (gd x9 true uS (fun h7 => Res.ok v5)) (fun v8 h9 => (sT232_2 C k x0 x9 v8 h9)) h6)) h3)))
def sK232 (C : CT) (k : Nat) (x0 x1 : S) (h : SH) : Tree := (kK (C 198 [x0] h) (fun v6 h7 => (kI k .eql v6 x1 h7 fun v11 h12 => (kB k (gd v11 true uS (fun h15 => Res.ok x0)) (fun v16 h17 => (sT232_3 C k x0 v11 v16 h17)) h12))))
theorem sp232 (C : CT) (k : Nat) : ds C k c232 (sQ232 C k) = fun e h => (sK232 C k (e 0) (e 1) h) := by kernel_rfl
def SF232 : SF := sf2 sK232
theorem so232 : SOK IP 232 SF232 := sok2 ir232 rfl (by kernel_rfl) (by kernel_rfl) fun C k x0 x1 h => congrFun (congrFun (sp232 C k) _) h
def sQ233 (C : CT) (k : Nat) : QT := QrS k rs233
def sT233_1 (C : CT) (k : Nat) (x0 : S) (h : SH) : Tree := (kK (C 198 [x0] h) (fun v4 h5 => (kK (C 44 [v4, (l64 3)] h5) (fun v7 h8 => (Tree.leaf v7 h8)))))
def sK233 (C : CT) (k : Nat) (x0 x1 : S) (h : SH) : Tree := (kK (C 198 [x0] h) (fun v8 h9 => (kK (C 232 [x0, v8] h9) (fun v11 h12 => (kB k (fun h13 => sUn .not v11 (SH.pc h13)) (fun v14 h15 => (kS v14 (fun h16 => (Tree.leaf x0 h16)) (fun h17 => (kK (C 198 [x0] h17) (fun v25 h26 => (kB k (fun h29 => sMin x1 [(l64 16777215)] (SH.pc h29)) (fun v30 h31 => (kI k .geq v25 v30 h31 fun v33 h34 => (kS v33 (fun h35 => (sT233_1 C k x0 h35)) (fun h36 => (kK (C 198 [x0] h36) (fun v40 h41 => (kK (C 44 [v40, (l64 0)] h41) (fun v43 h44 => (Tree.leaf v43 h44)))))) h34))) h26)))) h15)) h12)))))
theorem sp233 (C : CT) (k : Nat) : ds C k c233 (sQ233 C k) = fun e h => (sK233 C k (e 0) (e 1) h) := by kernel_rfl
def SF233 : SF := sf2 sK233
theorem so233 : SOK IP 233 SF233 := sok2 ir233 rfl (by kernel_rfl) (by kernel_rfl) fun C k x0 x1 h => congrFun (congrFun (sp233 C k) _) h
def sQ235 (C : CT) (k : Nat) : QT := QrS k rs235
def sT235_1 (C : CT) (k : Nat) (x5 x7 : S) (h : SH) : Tree := (kB k (fun h1 => sPick x5 x7 (S.b false) (SH.pc h1)) (fun v2 h3 => (Tree.leaf v2 h3)) h)
def sK235 (C : CT) (k : Nat) (x0 : S) (h : SH) : Tree := (kI k .geq x0 (l64 0) h fun v6 h7 => (kB k (gd v6 true uS (fun h10 => Res.ok x0)) (fun v11 h12 => (kB k (gd v6 true uS (fun h13 => sBin .lss v11 (l64 6) (SH.pc h13))) (fun v14 h15 => (sT235_1 C k v6 v14 h15)) h12)) h7))
theorem sp235 (C : CT) (k : Nat) : ds C k c235 (sQ235 C k) = fun e h => (sK235 C k (e 0) h) := by kernel_rfl
def SF235 : SF := sf1 sK235
theorem so235 : SOK IP 235 SF235 := sok1 ir235 rfl (by kernel_rfl) (by kernel_rfl) fun C k x0 h => congrFun (congrFun (sp235 C k) _) h
def sQ236 (C : CT) (k : Nat) : QT := QrS k rs236
def sT236_1 (C : CT) (k : Nat) (x9 x10 x11 : S) (h : SH) : Tree := (kK (kG x9 true (fun h1 => C 128 [x11] h1) h) (fun v2 h3 => (kB k (gd x9 true uS (fun h4 => sBin .leq x10 v2 (SH.pc h4))) (fun v5 h6 => (kB k (fun h7 => sPick x9 v5 (S.b false) (SH.pc h7)) (fun v8 h9 => (Tree.leaf v8 h9)) h6)) h3)))
def sK236 (C : CT) (k : Nat) (x0 x1 : S) (h : SH) : Tree := (kK (C 128 [x1] h) (fun v6 h7 => (kI k .lss v6 (l64 1099511627776) h7 fun v13 h14 => (kB k (gd v13 true uS (fun h17 => Res.ok v6)) (fun v18 h19 => (kB k (gd v13 true uS (fun h20 => Res.ok x0)) (fun v21 h22 => (sT236_1 C k v13 v18 v21 h22)) h19)) h14))))
theorem sp236 (C : CT) (k : Nat) : ds C k c236 (sQ236 C k) = fun e h => (sK236 C k (e 0) (e 1) h) := by kernel_rfl
def SF236 : SF := sf2 sK236
theorem so236 : SOK IP 236 SF236 := sok2 ir236 rfl (by kernel_rfl) (by kernel_rfl) fun C k x0 x1 h => congrFun (congrFun (sp236 C k) _) h
def sQ237 (C : CT) (k : Nat) : QT := QrS k rs237
def sT237_1 (C : CT) (k : Nat) (x5 x10 x13 : S) (h : SH) : Tree := (kB k (gd x5 true uS (fun h1 => sLd1 x13 h1)) (fun v2 h3 => (kB k (gd x5 true uS (fun h4 => sBin .lss x10 v2 (SH.pc h4))) (fun v5 h6 => (kB k (fun h7 => sPick x5 v5 (S.b false) (SH.pc h7)) (fun v8 h9 => (Tree.leaf v8 h9)) h6)) h3)) h)
def sT237_2 (C : CT) (k : Nat) (x0 x5 x10 : S) (h : SH) : Tree := (kB k (gd x5 true uS (fun h1 => Res.ok x0)) (fun v2 h3 => (kB k (gd x5 true uS (fun h4 => sNilc v2)) (fun v5 h6 => (kB k (gd x5 true uS (fun h7 => sFa 0 v5)) (fun v8 h9 => (sT237_1 C k x5 x10 v8 h9)) h6)) h3)) h)
def sT237_3 (C : CT) (k : Nat) (x0 x5 x7 : S) (h : SH) : Tree := (kB k (gd x5 true uS (fun h1 => sFa 1 x7)) (fun v2 h3 => (kB k (gd x5 true uS (fun h4 => sLd1 v2 h4)) (fun v5 h6 => (kB k (gd x5 true uS (fun h7 => sLens v5)) (fun v8 h9 => (sT237_2 C k x0 x5 v8 h9)) h6)) h3)) h)
def sK237 (C : CT) (k : Nat) (x0 : S) (h : SH) : Tree := (kB k (fun h5 => sEqz true .p x0 (S.p none) (SH.pc h5)) (fun v6 h7 => (kB k (gd v6 true uS (fun h10 => Res.ok x0)) (fun v11 h12 => (kB k (gd v6 true uS (fun h13 => sNilc v11)) (fun v14 h15 => (sT237_3 C k x0 v6 v14 h15)) h12)) h7)) h)
theorem sp237 (C : CT) (k : Nat) : ds C k c237 (sQ237 C k) = fun e h => (sK237 C k (e 0) h) := by kernel_rfl
def SF237 : SF := sf1 sK237
theorem so237 : SOK IP 237 SF237 := sok1 ir237 rfl (by kernel_rfl) (by kernel_rfl) fun C k x0 h => congrFun (congrFun (sp237 C k) _) h
def sQ238 (C : CT) (k : Nat) : QT := QrS k rs238
def sT238_1 (C : CT) (k : Nat) (x44 x49 x50 : S) (h : SH) : Tree := (kF k 3 x50 h fun v2 h3 => (kB k (fun h4 => sIaa 1 4 v2 x44 (SH.pc h4)) (fun v5 h6 => (kT k 1 v5 x49 h6 fun r9 _ => (Tree.leaf (S.b true) r9.2))) h3))
def sT238_2 (C : CT) (k : Nat) (x43 x44 x47 : S) (h : SH) : Tree := (kL k x47 h fun v2 h3 => (kI k .add v2 (l64 1) h3 fun v5 h6 => (kN k x43 h6 fun v8 h9 => (sT238_1 C k x44 v5 v8 h9))))
def sT238_3 (C : CT) (k : Nat) (x0 x1 x40 x42 : S) (h : SH) : Tree := (kT k 1 x42 x40 h fun r3 _ => (kN k x0 r3.2 fun v9 h10 => (kF k 3 v9 h10 fun v12 h13 => (kB k (fun h14 => sIaa 1 4 v12 x1 (SH.pc h14)) (fun v15 h16 => (sT238_2 C k x0 x1 v15 h16)) h13))))
def sT238_4 (C : CT) (k : Nat) (x0 x1 x36 x39 : S) (h : SH) : Tree := (kI k .add x39 (l64 1) h fun v2 h3 => (kN k x36 h3 fun v5 h6 => (kF k 2 v5 h6 fun v8 h9 => (sT238_3 C k x0 x1 v2 v8 h9))))
def sT238_5 (C : CT) (k : Nat) (x0 x1 x23 x29 x32 : S) (h : SH) : Tree := (kB k (gd x23 false uS (fun h1 => sLd1 x32 h1)) (fun v2 h3 => (kB k (gd x23 false uS (fun h4 => sBin .geq x29 v2 (SH.pc h4))) (fun v5 h6 => (kB k (fun h7 => sPick x23 (S.b true) v5 (SH.pc h7)) (fun v8 h9 => (kS v8 (fun h10 => (Tree.leaf (S.b false) h10)) (fun h11 => (kN k x0 h11 fun v17 h18 => (kF k 2 v17 h18 fun v20 h21 => (kL k v20 h21 fun v23 h24 => (sT238_4 C k x0 x1 x0 v23 h24))))) h9)) h6)) h3)) h)
def sT238_6 (C : CT) (k : Nat) (x0 x1 x23 x29 : S) (h : SH) : Tree := (kB k (gd x23 false uS (fun h1 => Res.ok x0)) (fun v2 h3 => (kB k (gd x23 false uS (fun h4 => sNilc v2)) (fun v5 h6 => (kB k (gd x23 false uS (fun h7 => sFa 1 v5)) (fun v8 h9 => (sT238_5 C k x0 x1 x23 x29 v8 h9)) h6)) h3)) h)
def sT238_7 (C : CT) (k : Nat) (x0 x1 x23 x25 x26 : S) (h : SH) : Tree := (kB k (gd x23 false uS (fun h1 => sFa 3 x26)) (fun v2 h3 => (kB k (gd x23 false uS (fun h4 => sIaa 1 4 v2 x25 (SH.pc h4))) (fun v5 h6 => (kB k (gd x23 false uS (fun h7 => sLd1 v5 h7)) (fun v8 h9 => (sT238_6 C k x0 x1 x23 v8 h9)) h6)) h3)) h)
def sT238_8 (C : CT) (k : Nat) (x0 x1 x23 : S) (h : SH) : Tree := (kB k (gd x23 false uS (fun h1 => Res.ok x0)) (fun v2 h3 => (kB k (gd x23 false uS (fun h4 => Res.ok x1)) (fun v5 h6 => (kB k (gd x23 false uS (fun h7 => sNilc v2)) (fun v8 h9 => (sT238_7 C k x0 x1 x23 v5 v8 h9)) h6)) h3)) h)
def sT238_9 (C : CT) (k : Nat) (x0 x1 x12 x16 x19 : S) (h : SH) : Tree := (kB k (gd x12 false uS (fun h1 => sLd1 x19 h1)) (fun v2 h3 => (kB k (gd x12 false uS (fun h4 => sBin .geq x16 v2 (SH.pc h4))) (fun v5 h6 => (kB k (fun h7 => sPick x12 (S.b true) v5 (SH.pc h7)) (fun v8 h9 => (sT238_8 C k x0 x1 v8 h9)) h6)) h3)) h)
def sT238_10 (C : CT) (k : Nat) (x0 x1 x12 x16 : S) (h : SH) : Tree := (kB k (gd x12 false uS (fun h1 => Res.ok x0)) (fun v2 h3 => (kB k (gd x12 false uS (fun h4 => sNilc v2)) (fun v5 h6 => (kB k (gd x12 false uS (fun h7 => sFa 0 v5)) (fun v8 h9 => (sT238_9 C k x0 x1 x12 x16 v8 h9)) h6)) h3)) h)
def sT238_11 (C : CT) (k : Nat) (x0 x1 x12 x13 : S) (h : SH) : Tree := (kB k (gd x12 false uS (fun h1 => sNilc x13)) (fun v2 h3 => (kB k (gd x12 false uS (fun h4 => sFa 2 v2)) (fun v5 h6 => (kB k (gd x12 false uS (fun h7 => sLd1 v5 h7)) (fun v8 h9 => (sT238_10 C k x0 x1 x12 v8 h9)) h6)) h3)) h)
def sT238_12 (C : CT) (k : Nat) (x0 x1 x7 x9 : S) (h : SH) : Tree := (kB k (gd x7 false uS (fun h1 => sUn .not x9 (SH.pc h1))) (fun v2 h3 => (kB k (fun h4 => sPick x7 (S.b true) v2 (SH.pc h4)) (fun v5 h6 => (kB k (gd v5 false uS (fun h9 => Res.ok x0)) (fun v10 h11 => (sT238_11 C k x0 x1 v5 v10 h11)) h6)) h3)) h)
def sK238 (C : CT) (k : Nat) (x0 x1 : S) (h : SH) : Tree := (kB k (fun h5 => sEqz false .p x0 (S.p none) (SH.pc h5)) (fun v6 h7 => (kB k (gd v6 false uS (fun h10 => Res.ok x1)) (fun v11 h12 => (kK (kG v6 false (fun h13 => C 246 [v11] h13) h12) (fun v14 h15 => (sT238_12 C k x0 x1 v6 v14 h15)))) h7)) h)
theorem sp238 (C : CT) (k : Nat) : ds C k c238 (sQ238 C k) = fun e h => (sK238 C k (e 0) (e 1) h) := by kernel_rfl
def SF238 : SF := sf2 sK238
theorem so238 : SOK IP 238 SF238 := sok2 ir238 rfl (by kernel_rfl) (by kernel_rfl) fun C k x0 x1 h => congrFun (congrFun (sp238 C k) _) h
def sQ239 (C : CT) (k : Nat) : QT := QrS k rs239
def sQ239_1 (C : CT) (k : Nat) : QT := (sQ239 C k)
def sK239_1 (C : CT) (k : Nat) (x4 x5 : S) (h : SH) : Tree := (Tree.leaf (S.tup [x4, x5]) h)
def sJ239_1 (C : CT) (k : Nat) : ES → SH → Tree := fun e h => (sK239_1 C k (e 4) (e 5) h)
theorem sp239_1 (C : CT) (k : Nat) : ds C k c239_1 (sQ239_1 C k) = (sJ239_1 C k) := by kernel_rfl
def sT239_2 (C : CT) (k : Nat) (x4 x5 x21 : S) (h : SH) : Tree := (kT k 1 x21 (S.b true) h fun r3 _ => (sK239_1 C k x4 x5 r3.2))
def sT239_3 (C : CT) (k : Nat) (x0 x4 x5 : S) (h : SH) : Tree := (kN k x0 h fun v6 h7 => (kF k 4 v6 h7 fun v9 h10 => (kB k (fun h11 => sIaa 1 16 v9 x4 (SH.pc h11)) (fun v12 h13 => (sT239_2 C k x4 x5 v12 h13)) h10)))
def sT239_4 (C : CT) (k : Nat) (x0 x12 : S) (h : SH) : Tree := (kK (C 285 [x12] h) (fun v2 h3 => (kX k v2 0 h3 fun v7 h8 => (kX k v2 1 h8 fun v10 h11 => (kS v10 (fun h18 => (sT239_3 C k x0 v7 v10 h18)) (fun h19 => (sK239_1 C k v7 v10 h19)) h11)))))
def sK239 (C : CT) (k : Nat) (x0 : S) (h : SH) : Tree := (kB k (fun h7 => sEqz false .p x0 (S.p none) (SH.pc h7)) (fun v8 h9 => (kS v8 (fun h10 => (Tree.leaf (S.tup [(l64 0), (S.b false)]) h10)) (fun h11 => (kN k x0 h11 fun v19 h20 => (kF k 3 v19 h20 fun v22 h23 => (kL k v22 h23 fun v25 h26 => (sT239_4 C k x0 v25 h26))))) h9)) h)
theorem sp239 (C : CT) (k : Nat) : ds C k c239 (sQ239 C k) = fun e h => (sK239 C k (e 0) h) := by
  refine Eq.trans (sseq_eq (sseq_eq (sseq_eq (sseq_eq (sp239_1 C k) rfl) rfl) rfl) rfl) ?_
  kernel_rfl
def SF239 : SF := sf1 sK239
theorem so239 : SOK IP 239 SF239 := sok1 ir239 rfl (by kernel_rfl) (by kernel_rfl) fun C k x0 h => congrFun (congrFun (sp239 C k) _) h
def sQ240 (C : CT) (k : Nat) : QT := QrS k rs240
def sQ240_1 (C : CT) (k : Nat) : QT := (sQ240 C k)
def sK240_1 (C : CT) (k : Nat) (h : SH) : Tree := (Tree.leaf (S.b true) h)
def sJ240_1 (C : CT) (k : Nat) : ES → SH → Tree := fun e h => (sK240_1 C k h)
theorem sp240_1 (C : CT) (k : Nat) : ds C k c240_1 (sQ240_1 C k) = (sJ240_1 C k) := by kernel_rfl
def sT240_2 (C : CT) (k : Nat) (x28 x30 : S) (h : SH) : Tree := (kT k 1 x30 x28 h fun r3 _ => (sK240_1 C k r3.2))
def sT240_3 (C : CT) (k : Nat) (x24 x27 : S) (h : SH) : Tree := (kI k .add x27 (l64 1) h fun v2 h3 => (kN k x24 h3 fun v5 h6 => (kF k 10 v5 h6 fun v8 h9 => (sT240_2 C k v2 v8 h9))))
def sT240_4 (C : CT) (k : Nat) (x0 x21 x23 : S) (h : SH) : Tree := (kT k 1 x23 x21 h fun r3 _ => (kN k x0 r3.2 fun v7 h8 => (kF k 10 v7 h8 fun v10 h11 => (kL k v10 h11 fun v13 h14 => (sT240_3 C k x0 v13 h14)))))
def sT240_5 (C : CT) (k : Nat) (x0 x17 x20 : S) (h : SH) : Tree := (kI k .sub x20 (l64 1) h fun v2 h3 => (kN k x17 h3 fun v5 h6 => (kF k 9 v5 h6 fun v8 h9 => (sT240_4 C k x0 v2 v8 h9))))
def sT240_6 (C : CT) (k : Nat) (x0 x15 : S) (h : SH) : Tree := (kI k .eql x15 (l64 0) h fun v2 h3 => (kS v2 (fun h4 => (Tree.leaf (S.b false) h4)) (fun h5 => (kN k x0 h5 fun v11 h12 => (kF k 9 v11 h12 fun v14 h15 => (kL k v14 h15 fun v17 h18 => (sT240_5 C k x0 x0 v17 h18))))) h3))
def sT240_7 (C : CT) (k : Nat) (x0 : S) (h : SH) : Tree := (kN k x0 h fun v4 h5 => (kF k 9 v4 h5 fun v7 h8 => (kL k v7 h8 fun v10 h11 => (sT240_6 C k x0 v10 h11))))
def sT240_8 (C : CT) (k : Nat) (x0 x7 : S) (h : SH) : Tree := (kI k .eql x7 (l64 2) h fun v2 h3 => (kS v2 (fun h6 => (sT240_7 C k x0 h6)) (fun h7 => (sK240_1 C k h7)) h3))
def sK240 (C : CT) (k : Nat) (x0 x1 : S) (h : SH) : Tree := (kK (C 247 [x0, x1] h) (fun v8 h9 => (kI k .eql v8 (l64 1) h9 fun v11 h12 => (kS v11 (fun h15 => (Tree.leaf (S.b false) h15)) (fun h16 => (sT240_8 C k x0 v8 h16)) h12))))
theorem sp240 (C : CT) (k : Nat) : ds C k c240 (sQ240 C k) = fun e h => (sK240 C k (e 0) (e 1) h) := by
  refine Eq.trans (sseq_eq (sseq_eq (sp240_1 C k) rfl) rfl) ?_
  kernel_rfl
def SF240 : SF := sf2 sK240
theorem so240 : SOK IP 240 SF240 := sok2 ir240 rfl (by kernel_rfl) (by kernel_rfl) fun C k x0 x1 h => congrFun (congrFun (sp240 C k) _) h
def sQ241 (C : CT) (k : Nat) : QT := QrS k rs241
def sT241_1 (C : CT) (k : Nat) (x48 x49 : S) (h : SH) : Tree := (kK (C 286 [x48, x49] h) (fun v2 h3 => (Tree.leaf v2 h3)))
def sT241_2 (C : CT) (k : Nat) (x42 x44 : S) (h : SH) : Tree := (kT k 1 x44 x42 h fun r3 _ => (Tree.leaf (S.b true) r3.2))
def sT241_3 (C : CT) (k : Nat) (x38 x41 : S) (h : SH) : Tree := (kI k .add x41 (l64 1) h fun v2 h3 => (kN k x38 h3 fun v5 h6 => (kF k 20 v5 h6 fun v8 h9 => (sT241_2 C k v2 v8 h9))))
def sT241_4 (C : CT) (k : Nat) (x0 : S) (h : SH) : Tree := (kN k x0 h fun v4 h5 => (kF k 20 v4 h5 fun v7 h8 => (kL k v7 h8 fun v10 h11 => (sT241_3 C k x0 v10 h11))))
def sT241_5 (C : CT) (k : Nat) (x0 x1 x7 x35 : S) (h : SH) : Tree := (kT k 1 x35 (S.b false) h fun r3 _ => (kI k .eql x7 (l64 3) r3.2 fun v7 h8 => (kS v7 (fun h9 => (sT241_4 C k x0 h9)) (fun h10 => (kN k x0 h10 fun v14 h15 => (kF k 3 v14 h15 fun v17 h18 => (kL k v17 h18 fun v20 h21 => (sT241_1 C k v20 x1 h21))))) h8)))
def sT241_6 (C : CT) (k : Nat) (x0 x1 x7 x23 x26 x28 : S) (h : SH) : Tree := (kB k (gd x23 false uS (fun h1 => sPick x26 x28 (S.b false) (SH.pc h1))) (fun v2 h3 => (kB k (fun h4 => sPick x23 (S.b true) v2 (SH.pc h4)) (fun v5 h6 => (kS v5 (fun h7 => (Tree.leaf (S.b false) h7)) (fun h8 => (kN k x0 h8 fun v16 h17 => (kF k 4 v16 h17 fun v19 h20 => (kB k (fun h21 => sIaa 1 16 v19 x1 (SH.pc h21)) (fun v22 h23 => (sT241_5 C k x0 x1 x7 v22 h23)) h20)))) h6)) h3)) h)
def sT241_7 (C : CT) (k : Nat) (x0 x1 x7 x23 x25 : S) (h : SH) : Tree := (kB k (gd x23 false uS (fun h1 => Res.ok x25)) (fun v2 h3 => (kB k (gd v2 true uS (fun h4 => Res.ok x7)) (fun v5 h6 => (kB k (gd v2 true uS (fun h7 => sBin .neq v5 (l64 3) (SH.pc h7))) (fun v8 h9 => (sT241_6 C k x0 x1 x7 x23 v2 v8 h9)) h6)) h3)) h)
def sT241_8 (C : CT) (k : Nat) (x0 x1 x7 x14 x21 : S) (h : SH) : Tree := (kB k (fun h1 => sPick x14 (S.b true) x21 (SH.pc h1)) (fun v2 h3 => (kB k (gd v2 false uS (fun h6 => Res.ok x7)) (fun v7 h8 => (kB k (gd v2 false uS (fun h9 => sBin .neq v7 (l64 0) (SH.pc h9))) (fun v10 h11 => (sT241_7 C k x0 x1 x7 v2 v10 h11)) h8)) h3)) h)
def sT241_9 (C : CT) (k : Nat) (x0 x1 x7 x14 x16 x18 : S) (h : SH) : Tree := (kB k (gd x14 false uS (fun h1 => sIaa 1 16 x18 x16 (SH.pc h1))) (fun v2 h3 => (kB k (gd x14 false uS (fun h4 => sLd1 v2 h4)) (fun v5 h6 => (kB k (gd x14 false uS (fun h7 => sUn .not v5 (SH.pc h7))) (fun v8 h9 => (sT241_8 C k x0 x1 x7 x14 v8 h9)) h6)) h3)) h)
def sT241_10 (C : CT) (k : Nat) (x0 x1 x7 x14 x15 : S) (h : SH) : Tree := (kB k (gd x14 false uS (fun h1 => Res.ok x1)) (fun v2 h3 => (kB k (gd x14 false uS (fun h4 => sNilc x15)) (fun v5 h6 => (kB k (gd x14 false uS (fun h7 => sFa 4 v5)) (fun v8 h9 => (sT241_9 C k x0 x1 x7 x14 v2 v8 h9)) h6)) h3)) h)
def sK241 (C : CT) (k : Nat) (x0 x1 x2 : S) (h : SH) : Tree := (kK (C 245 [x2] h) (fun v6 h7 => (kK (C 145 [x0, x1] h7) (fun v15 h16 => (kI k .lss v15 (l64 0) h16 fun v18 h19 => (kB k (gd v18 false uS (fun h22 => Res.ok x0)) (fun v23 h24 => (sT241_10 C k x0 x1 v6 v18 v23 h24)) h19))))))
theorem sp241 (C : CT) (k : Nat) : ds C k c241 (sQ241 C k) = fun e h => (sK241 C k (e 0) (e 1) (e 2) h) := by kernel_rfl
def SF241 : SF := sf3 sK241
theorem so241 : SOK IP 241 SF241 := sok3 ir241 rfl (by kernel_rfl) (by kernel_rfl) fun C k x0 x1 x2 h => congrFun (congrFun (sp241 C k) _) h
def sQ244 (C : CT) (k : Nat) : QT := QrS k rs244
def sQ244_1 (C : CT) (k : Nat) : QT := (sQ244 C k)
def sT244_2 (C : CT) (k : Nat) (x39 x46 : S) (h : SH) : Tree := (kN k x39 h fun v2 h3 => (kF k 2 v2 h3 fun v5 h6 => (kT k 1 v5 x46 h6 fun r9 _ => (Tree.leaf (S.tup []) r9.2))))
def sT244_3 (C : CT) (k : Nat) (x3 x39 x43 : S) (h : SH) : Tree := (kA k 11 x3 h fun v2 h3 => (kB k (fun h4 => sNewSl 1 z9 [(0, 11, v2)] h4) (fun r6 _ => (kB k (fun h7 => sApp 11 80 x43 r6.1 h7) (fun r9 _ => (sT244_2 C k x39 r9.1 r9.2)) r6.2)) h3))
def sK244_1 (C : CT) (k : Nat) (x0 x3 : S) (h : SH) : Tree := (kN k x0 h fun v6 h7 => (kF k 2 v6 h7 fun v9 h10 => (kL k v9 h10 fun v12 h13 => (sT244_3 C k x3 x0 v12 h13))))
def sJ244_1 (C : CT) (k : Nat) : ES → SH → Tree := fun e h => (sK244_1 C k (e 0) (e 3) h)
theorem sp244_1 (C : CT) (k : Nat) : ds C k c244_1 (sQ244_1 C k) = (sJ244_1 C k) := by kernel_rfl
def sT244_4 (C : CT) (k : Nat) (x36 x38 : S) (h : SH) : Tree := (kT k 1 x38 x36 h fun r3 _ => (Tree.leaf (S.tup []) r3.2))
def sT244_5 (C : CT) (k : Nat) (x28 x30 x33 x35 : S) (h : SH) : Tree := (kI k .add x33 x35 h fun v2 h3 => (kB k (fun h4 => sIa 11 x28 x30 (SH.pc h4)) (fun v5 h6 => (kF k 10 v5 h6 fun v8 h9 => (sT244_4 C k v2 v8 h9))) h3))
def sT244_6 (C : CT) (k : Nat) (x3 x28 x30 x32 : S) (h : SH) : Tree := (kL k x32 h fun v2 h3 => (kF k 10 x3 h3 fun v5 h6 => (kL k v5 h6 fun v8 h9 => (sT244_5 C k x28 x30 v2 v8 h9))))
def sT244_7 (C : CT) (k : Nat) (x3 x28 x29 : S) (h : SH) : Tree := (kI k .add x29 (l64 1) h fun v2 h3 => (kB k (fun h4 => sIa 11 x28 v2 (SH.pc h4)) (fun v5 h6 => (kF k 10 v5 h6 fun v8 h9 => (sT244_6 C k x3 x28 v2 v8 h9))) h3))
def sT244_8 (C : CT) (k : Nat) (x0 x3 x4 : S) (h : SH) : Tree := (kN k x0 h fun v4 h5 => (kF k 2 v4 h5 fun v7 h8 => (kL k v7 h8 fun v10 h11 => (sT244_7 C k x3 v10 x4 h11))))
def sT244_9 (C : CT) (k : Nat) (x0 x3 x20 : S) (h : SH) : Tree := (kB k (fun h1 => Res.ok (S.fn 289 [x3])) (fun v2 h3 => (kK (C 288 [x20, v2] h3) (fun v5 h6 => (kI k .geq v5 (l64 0) h6 fun v12 h13 => (kS v12 (fun h14 => (sT244_8 C k x0 x3 v5 h14)) (fun h15 => (sK244_1 C k x0 x3 h15)) h13))))) h)
def sT244_10 (C : CT) (k : Nat) (x0 x3 x13 x17 : S) (h : SH) : Tree := (kB k (fun h1 => sLens x17) (fun v2 h3 => (kB k (fun h4 => sMin (l64 1) [v2] (SH.pc h4)) (fun v5 h6 => (kB k (fun h7 => sSls 11 x13 (some v5) none none (SH.pc h7)) (fun v8 h9 => (sT244_9 C k x0 x3 v8 h9)) h6)) h3)) h)
def sT244_11 (C : CT) (k : Nat) (x0 x3 x13 x14 : S) (h : SH) : Tree := (kN k x14 h fun v2 h3 => (kF k 2 v2 h3 fun v5 h6 => (kL k v5 h6 fun v8 h9 => (sT244_10 C k x0 x3 x13 v8 h9))))
def sT244_12 (C : CT) (k : Nat) (x0 x3 : S) (h : SH) : Tree := (kN k x0 h fun v4 h5 => (kF k 2 v4 h5 fun v7 h8 => (kL k v7 h8 fun v10 h11 => (sT244_11 C k x0 x3 v10 x0 h11))))
def sK244 (C : CT) (k : Nat) (x0 x1 : S) (h : SH) : Tree := (kB k (fun h1 => sBox x1 h1) (fun r3 _ => (kB k (fun h6 => sEqz false .p x0 (S.p none) (SH.pc h6)) (fun v7 h8 => (kS v7 (fun h9 => (Tree.leaf (S.tup []) h9)) (fun h10 => (kF k 0 r3.1 h10 fun v12 h13 => (kL k v12 h13 fun v15 h16 => (kI k .eql v15 (l64 6) h16 fun v18 h19 => (kS v18 (fun h20 => (sT244_12 C k x0 r3.1 h20)) (fun h21 => (sK244_1 C k x0 r3.1 h21)) h19))))) h8)) r3.2)) h)
theorem sp244 (C : CT) (k : Nat) : ds C k c244 (sQ244 C k) = fun e h => (sK244 C k (e 0) (e 1) h) := by
  refine Eq.trans (sseq_eq (sseq_eq (sseq_eq (sp244_1 C k) rfl) rfl) rfl) ?_
  kernel_rfl
def SF244 : SF := sf2 sK244
theorem so244 : SOK IP 244 SF244 := sok2 ir244 rfl (by kernel_rfl) (by kernel_rfl) fun C k x0 x1 h => congrFun (congrFun (sp244 C k) _) h
def sQ245 (C : CT) (k : Nat) : QT := QrS k rs245
def sK245 (C : CT) (k : Nat) (x0 : S) (h : SH) : Tree := (kA k 2 (S.p (some (0, 0))) h fun v4 h5 => (kK (C 105 [v4, x0] h5) (fun v9 h10 => (kB k (fun h11 => sCvi .i64 v9 (SH.pc h11)) (fun v12 h13 => (Tree.leaf v12 h13)) h10))))
theorem sp245 (C : CT) (k : Nat) : ds C k c245 (sQ245 C k) = fun e h => (sK245 C k (e 0) h) := by kernel_rfl
def SF245 : SF := sf1 sK245
theorem so245 : SOK IP 245 SF245 := sok1 ir245 rfl (by kernel_rfl) (by kernel_rfl) fun C k x0 h => congrFun (congrFun (sp245 C k) _) h
def sQ246 (C : CT) (k : Nat) : QT := QrS k rs246
def sT246_1 (C : CT) (k : Nat) (x5 x7 : S) (h : SH) : Tree := (kB k (fun h1 => sPick x5 x7 (S.b false) (SH.pc h1)) (fun v2 h3 => (Tree.leaf v2 h3)) h)
def sK246 (C : CT) (k : Nat) (x0 : S) (h : SH) : Tree := (kI k .geq x0 (l64 0) h fun v6 h7 => (kB k (gd v6 true uS (fun h10 => Res.ok x0)) (fun v11 h12 => (kB k (gd v6 true uS (fun h13 => sBin .lss v11 (l64 4) (SH.pc h13))) (fun v14 h15 => (sT246_1 C k v6 v14 h15)) h12)) h7))
theorem sp246 (C : CT) (k : Nat) : ds C k c246 (sQ246 C k) = fun e h => (sK246 C k (e 0) h) := by kernel_rfl
def SF246 : SF := sf1 sK246
theorem so246 : SOK IP 246 SF246 := sok1 ir246 rfl (by kernel_rfl) (by kernel_rfl) fun C k x0 h => congrFun (congrFun (sp246 C k) _) h
def sQ247 (C : CT) (k : Nat) : QT := QrS k rs247
def sQ247_1 (C : CT) (k : Nat) : QT := (sQ247 C k)
def sK247_1 (C : CT) (k : Nat) (x0 : S) (h : SH) : Tree := (kN k x0 h fun v4 h5 => (kF k 7 v4 h5 fun v7 h8 => (kL k v7 h8 fun v10 h11 => (Tree.leaf v10 h11))))
def sJ247_1 (C : CT) (k : Nat) : ES → SH → Tree := fun e h => (sK247_1 C k (e 0) h)
theorem sp247_1 (C : CT) (k : Nat) : ds C k c247_1 (sQ247_1 C k) = (sJ247_1 C k) := by kernel_rfl
def sT247_2 (C : CT) (k : Nat) (x0 x33 : S) (h : SH) : Tree := (kT k 1 x33 (l64 0) h fun r3 _ => (sK247_1 C k x0 r3.2))
def sT247_3 (C : CT) (k : Nat) (x0 x22 x27 x31 : S) (h : SH) : Tree := (kT k 1 x31 x27 h fun r3 _ => (kN k x22 r3.2 fun v5 h6 => (kF k 10 v5 h6 fun v8 h9 => (sT247_2 C k x0 v8 h9))))
def sT247_4 (C : CT) (k : Nat) (x0 x21 x22 x27 x29 : S) (h : SH) : Tree := (kT k 1 x29 (l64 2) h fun r3 _ => (kN k x21 r3.2 fun v5 h6 => (kF k 9 v5 h6 fun v8 h9 => (sT247_3 C k x0 x22 x27 v8 h9))))
def sT247_5 (C : CT) (k : Nat) (x0 x20 x21 x22 x26 : S) (h : SH) : Tree := (kL k x26 h fun v2 h3 => (kN k x20 h3 fun v5 h6 => (kF k 7 v5 h6 fun v8 h9 => (sT247_4 C k x0 x21 x22 v2 v8 h9))))
def sT247_6 (C : CT) (k : Nat) (x0 : S) (h : SH) : Tree := (kN k x0 h fun v10 h11 => (kF k 0 v10 h11 fun v13 h14 => (kF k 5 v13 h14 fun v16 h17 => (sT247_5 C k x0 x0 x0 x0 v16 h17))))
def sT247_7 (C : CT) (k : Nat) (x0 x12 x13 x17 : S) (h : SH) : Tree := (kK (kG x12 true (fun h1 => C 236 [x13, x17] h1) h) (fun v2 h3 => (kB k (fun h4 => sPick x12 v2 (S.b false) (SH.pc h4)) (fun v5 h6 => (kS v5 (fun h7 => (sT247_6 C k x0 h7)) (fun h8 => (sK247_1 C k x0 h8)) h6)) h3)))
def sT247_8 (C : CT) (k : Nat) (x0 x12 x13 x14 : S) (h : SH) : Tree := (kB k (gd x12 true uS (fun h1 => sNilc x14)) (fun v2 h3 => (kB k (gd x12 true uS (fun h4 => sFa 8 v2)) (fun v5 h6 => (kB k (gd x12 true uS (fun h7 => sLd1 v5 h7)) (fun v8 h9 => (sT247_7 C k x0 x12 x13 v8 h9)) h6)) h3)) h)
def sT247_9 (C : CT) (k : Nat) (x0 x1 x10 : S) (h : SH) : Tree := (kI k .eql x10 (l64 1) h fun v2 h3 => (kB k (gd v2 true uS (fun h6 => Res.ok x1)) (fun v7 h8 => (kB k (gd v2 true uS (fun h9 => Res.ok x0)) (fun v10 h11 => (sT247_8 C k x0 v2 v7 v10 h11)) h8)) h3))
def sK247 (C : CT) (k : Nat) (x0 x1 : S) (h : SH) : Tree := (kB k (fun h5 => sEqz false .p x0 (S.p none) (SH.pc h5)) (fun v6 h7 => (kS v6 (fun h8 => (Tree.leaf (l64 0) h8)) (fun h9 => (kN k x0 h9 fun v15 h16 => (kF k 7 v15 h16 fun v18 h19 => (kL k v18 h19 fun v21 h22 => (sT247_9 C k x0 x1 v21 h22))))) h7)) h)
theorem sp247 (C : CT) (k : Nat) : ds C k c247 (sQ247 C k) = fun e h => (sK247 C k (e 0) (e 1) h) := by
  refine Eq.trans (sseq_eq (sseq_eq (sseq_eq (sp247_1 C k) rfl) rfl) rfl) ?_
  kernel_rfl
def SF247 : SF := sf2 sK247
theorem so247 : SOK IP 247 SF247 := sok2 ir247 rfl (by kernel_rfl) (by kernel_rfl) fun C k x0 x1 h => congrFun (congrFun (sp247 C k) _) h
def sQ249 (C : CT) (k : Nat) : QT := QrS k rs249
def sT249_1 (C : CT) (k : Nat) (x23 x25 : S) (h : SH) : Tree := (kT k 1 x25 x23 h fun r3 _ => (Tree.leaf (S.tup []) r3.2))
def sT249_2 (C : CT) (k : Nat) (x19 x22 : S) (h : SH) : Tree := (kI k .add x22 (l64 1) h fun v2 h3 => (kN k x19 h3 fun v5 h6 => (kF k 0 v5 h6 fun v8 h9 => (sT249_1 C k v2 v8 h9))))
def sT249_3 (C : CT) (k : Nat) (x30 x32 : S) (h : SH) : Tree := (kT k 1 x32 x30 h fun r3 _ => (Tree.leaf (S.tup []) r3.2))
def sT249_4 (C : CT) (k : Nat) (x26 x29 : S) (h : SH) : Tree := (kI k .add x29 (l64 1) h fun v2 h3 => (kN k x26 h3 fun v5 h6 => (kF k 1 v5 h6 fun v8 h9 => (sT249_3 C k v2 v8 h9))))
def sT249_5 (C : CT) (k : Nat) (x6 : S) (h : SH) : Tree := (kN k x6 h fun v4 h5 => (kF k 0 v4 h5 fun v7 h8 => (kL k v7 h8 fun v10 h11 => (sT249_2 C k x6 v10 h11))))
def sT249_6 (C : CT) (k : Nat) (x6 : S) (h : SH) : Tree := (kN k x6 h fun v4 h5 => (kF k 1 v4 h5 fun v7 h8 => (kL k v7 h8 fun v10 h11 => (sT249_4 C k x6 v10 h11))))
def sT249_7 (C : CT) (k : Nat) (x2 x12 x16 : S) (h : SH) : Tree := (kK (C 292 [x12, x16] h) (fun v2 h3 => (kS x2 (fun h8 => (sT249_5 C k v2 h8)) (fun h9 => (sT249_6 C k v2 h9)) h3)))
def sK249 (C : CT) (k : Nat) (x0 x1 x2 : S) (h : SH) : Tree := (kB k (fun h3 => sEqz false .p x0 (S.p none) (SH.pc h3)) (fun v4 h5 => (kS v4 (fun h6 => (Tree.leaf (S.tup []) h6)) (fun h7 => (kK (C 291 [x0, x1] h7) (fun v13 h14 => (kN k x0 h14 fun v20 h21 => (kF k 2 v20 h21 fun v23 h24 => (kL k v23 h24 fun v26 h27 => (sT249_7 C k x2 x0 v26 h27))))))) h5)) h)
theorem sp249 (C : CT) (k : Nat) : ds C k c249 (sQ249 C k) = fun e h => (sK249 C k (e 0) (e 1) (e 2) h) := by kernel_rfl
def SF249 : SF := sf3 sK249
theorem so249 : SOK IP 249 SF249 := sok3 ir249 rfl (by kernel_rfl) (by kernel_rfl) fun C k x0 x1 x2 h => congrFun (congrFun (sp249 C k) _) h
def sQ250 (C : CT) (k : Nat) : QT := QrS k rs250
def sT250_1 (C : CT) (k : Nat) (x18 x21 x28 : S) (h : SH) : Tree := (kB k (gd x18 true uS (fun h1 => sBin .geq x21 x28 (SH.pc h1))) (fun v2 h3 => (kB k (fun h4 => sPick x18 v2 (S.b false) (SH.pc h4)) (fun v5 h6 => (Tree.leaf v5 h6)) h3)) h)
def sT250_2 (C : CT) (k : Nat) (x18 x21 x22 x25 : S) (h : SH) : Tree := (kB k (gd x18 true uS (fun h1 => sFa 3 x25)) (fun v2 h3 => (kB k (gd x18 true uS (fun h4 => sLd1 v2 h4)) (fun v5 h6 => (kB k (gd x18 true uS (fun h7 => sBin .mul x22 v5 (SH.pc h7))) (fun v8 h9 => (sT250_1 C k x18 x21 v8 h9)) h6)) h3)) h)
def sT250_3 (C : CT) (k : Nat) (x0 x18 x21 x22 : S) (h : SH) : Tree := (kB k (gd x18 true uS (fun h1 => Res.ok x0)) (fun v2 h3 => (kB k (gd x18 true uS (fun h4 => sNilc v2)) (fun v5 h6 => (kB k (gd x18 true uS (fun h7 => sFa 0 v5)) (fun v8 h9 => (sT250_2 C k x18 x21 x22 v8 h9)) h6)) h3)) h)
def sT250_4 (C : CT) (k : Nat) (x0 x5 x18 x19 : S) (h : SH) : Tree := (kB k (gd x18 true uS (fun h1 => sLd1 x19 h1)) (fun v2 h3 => (kB k (gd x18 true uS (fun h4 => sBin .mul v2 (l64 100) (SH.pc h4))) (fun v5 h6 => (kB k (gd x18 true uS (fun h7 => Res.ok x5)) (fun v8 h9 => (sT250_3 C k x0 x18 v5 v8 h9)) h6)) h3)) h)
def sT250_5 (C : CT) (k : Nat) (x0 x3 x5 x11 x15 : S) (h : SH) : Tree := (kL k x15 h fun v2 h3 => (kI k .geq x11 v2 h3 fun v5 h6 => (kB k (gd v5 true uS (fun h9 => sFa 1 x3)) (fun v10 h11 => (sT250_4 C k x0 x5 v5 v10 h11)) h6)))
def sT250_6 (C : CT) (k : Nat) (x0 x3 x7 x8 : S) (h : SH) : Tree := (kL k x8 h fun v2 h3 => (kI k .add x7 v2 h3 fun v5 h6 => (kN k x0 h6 fun v14 h15 => (kF k 0 v14 h15 fun v17 h18 => (kF k 2 v17 h18 fun v20 h21 => (sT250_5 C k x0 x3 v5 v5 v20 h21))))))
def sK250 (C : CT) (k : Nat) (x0 x1 : S) (h : SH) : Tree := (kB k (fun h1 => sBox x1 h1) (fun r3 _ => (kF k 0 r3.1 r3.2 fun v7 h8 => (kL k v7 h8 fun v10 h11 => (kF k 1 r3.1 h11 fun v13 h14 => (sT250_6 C k x0 r3.1 v10 v13 h14))))) h)
theorem sp250 (C : CT) (k : Nat) : ds C k c250 (sQ250 C k) = fun e h => (sK250 C k (e 0) (e 1) h) := by kernel_rfl
def SF250 : SF := sf2 sK250
theorem so250 : SOK IP 250 SF250 := sok2 ir250 rfl (by kernel_rfl) (by kernel_rfl) fun C k x0 x1 h => congrFun (congrFun (sp250 C k) _) h
def sQ251 (C : CT) (k : Nat) : QT := QrS k rs251
def sQ251_1 (C : CT) (k : Nat) : QT := (sQ251 C k)
def sK251_1 (C : CT) (k : Nat) (x4 x5 : S) (h : SH) : Tree := (kA k 2 x5 h fun v2 h3 => (kT k 2 x4 v2 h3 fun r6 _ => (kA k 2 x4 r6.2 fun v8 h9 => (Tree.leaf v8 h9))))
def sJ251_1 (C : CT) (k : Nat) : ES → SH → Tree := fun e h => (sK251_1 C k (e 4) (e 5) h)
theorem sp251_1 (C : CT) (k : Nat) : ds C k c251_1 (sQ251_1 C k) = (sJ251_1 C k) := by kernel_rfl
def sR251_2 (C : CT) (k : Nat) : QT := (QbS 0 (QxS (sJ251_1 C k) (sQ251 C k)))
def sQ251_2 (C : CT) (k : Nat) (g251_2 : S → S → S → S → S → SH → Tree) : QT := QxS (fun e h => g251_2 (e 4) (e 5) (e 17) (e 18) (e 19) h) (sR251_2 C k)
def sT251_3 (C : CT) (k : Nat) (g251_2 : S → S → S → S → S → SH → Tree) (x4 x5 x17 x18 x19 x33 x34 : S) (h : SH) : Tree := (kT k 1 x34 x33 h fun r3 _ => (kI k .add x19 (l64 1) r3.2 fun v5 h6 => (g251_2 x4 x5 x17 x18 v5 h6)))
def sT251_4 (C : CT) (k : Nat) (g251_2 : S → S → S → S → S → SH → Tree) (x4 x5 x17 x18 x19 x30 x31 : S) (h : SH) : Tree := (kL k x31 h fun v2 h3 => (kI k .add x30 v2 h3 fun v5 h6 => (kF k 1 x5 h6 fun v8 h9 => (sT251_3 C k g251_2 x4 x5 x17 x18 x19 v5 v8 h9))))
def sT251_5 (C : CT) (k : Nat) (g251_2 : S → S → S → S → S → SH → Tree) (x4 x5 x7 x17 x18 x19 x27 x28 : S) (h : SH) : Tree := (kT k 1 x28 x27 h fun r3 _ => (kF k 1 x5 r3.2 fun v5 h6 => (kL k v5 h6 fun v8 h9 => (kF k 1 x7 h9 fun v11 h12 => (sT251_4 C k g251_2 x4 x5 x17 x18 x19 v8 v11 h12)))))
def sT251_6 (C : CT) (k : Nat) (g251_2 : S → S → S → S → S → SH → Tree) (x4 x5 x7 x17 x18 x19 x24 x25 : S) (h : SH) : Tree := (kL k x25 h fun v2 h3 => (kI k .add x24 v2 h3 fun v5 h6 => (kF k 0 x5 h6 fun v8 h9 => (sT251_5 C k g251_2 x4 x5 x7 x17 x18 x19 v5 v8 h9))))
def sT251_7 (C : CT) (k : Nat) (g251_2 : S → S → S → S → S → SH → Tree) (x4 x5 x7 x17 x18 x19 x22 : S) (h : SH) : Tree := (kT k 2 x7 x22 h fun r3 _ => (kF k 0 x5 r3.2 fun v5 h6 => (kL k v5 h6 fun v8 h9 => (kF k 0 x7 h9 fun v11 h12 => (sT251_6 C k g251_2 x4 x5 x7 x17 x18 x19 v8 v11 h12)))))
def sL251_2 (C : CT) (k : Nat) (g251_2 : S → S → S → S → S → SH → Tree) (x4 x5 x17 x18 x19 : S) (h : SH) : Tree := (kI k .lss x19 x18 h fun v2 h3 => (kS v2 (fun h4 => (kB k (fun h6 => sIa 2 x17 x19 (SH.pc h6)) (fun v7 h8 => (kA k 2 v7 h8 fun v10 h11 => (kB k (fun h12 => sZero z19 h12) (fun r14 _ => (sT251_7 C k g251_2 x4 x5 r14.1 x17 x18 x19 v10 r14.2)) h11))) h4)) (fun h5 => (sK251_1 C k x4 x5 h5)) h3))
theorem sp251_2 (C : CT) (k : Nat) (g251_2 : S → S → S → S → S → SH → Tree) : ds C k c251_2 (sQ251_2 C k g251_2) = fun e h => (sL251_2 C k g251_2 (e 4) (e 5) (e 17) (e 18) (e 19) h) := by kernel_rfl
def sW251_2 (C : CT) (k : Nat) (x4 x5 x17 x18 x19 : S) (h : SH) : Tree := kFix k (fun (g : S × S × S × S × S × Unit → SH → Tree) (x : S × S × S × S × S × Unit) h => sL251_2 C k (fun y4 y5 y17 y18 y19 h => g (y4, y5, y17, y18, y19, ()) h) x.1 x.2.1 x.2.2.1 x.2.2.2.1 x.2.2.2.2.1 h) (x4, x5, x17, x18, x19, ()) h
theorem sn251_2 (C : CT) (k : Nat) : ∀ g : S × S × S × S × S × Unit → SH → Tree, ds C k c251_2 (QxS (fun e h => g ((fun e : ES => ((e 4, e 5, e 17, e 18, e 19, ()) : S × S × S × S × S × Unit)) e) h) (sR251_2 C k)) = fun e h => (fun (g : S × S × S × S × S × Unit → SH → Tree) (x : S × S × S × S × S × Unit) h => sL251_2 C k (fun y4 y5 y17 y18 y19 h => g (y4, y5, y17, y18, y19, ()) h) x.1 x.2.1 x.2.2.1 x.2.2.2.1 x.2.2.2.2.1 h) g ((fun e : ES => ((e 4, e 5, e 17, e 18, e 19, ()) : S × S × S × S × S × Unit)) e) h := fun g => sp251_2 C k (fun y4 y5 y17 y18 y19 h => g (y4, y5, y17, y18, y19, ()) h)
theorem sw251_2 (C : CT) (k : Nat) : ds C k (.loop c251_2) (sR251_2 C k) = fun e h => (sW251_2 C k (e 4) (e 5) (e 17) (e 18) (e 19) h) := sloop_eq (fun e : ES => ((e 4, e 5, e 17, e 18, e 19, ()) : S × S × S × S × S × Unit)) (fun (g : S × S × S × S × S × Unit → SH → Tree) (x : S × S × S × S × S × Unit) h => sL251_2 C k (fun y4 y5 y17 y18 y19 h => g (y4, y5, y17, y18, y19, ()) h) x.1 x.2.1 x.2.2.1 x.2.2.2.1 x.2.2.2.2.1 h) (sn251_2 C k)
def sT251_8 (C : CT) (k : Nat) (x4 x5 x17 : S) (h : SH) : Tree := (kB k (fun h1 => sLens x17) (fun v2 h3 => (sW251_2 C k x4 x5 x17 v2 (l64 0) h3)) h)
def sK251 (C : CT) (k : Nat) (x0 x1 : S) (h : SH) : Tree := (kB k (fun h1 => sZero z19 h1) (fun r3 _ => (kB k (fun h4 => sZero z19 h4) (fun r6 _ => (kB k (fun h9 => sEqz false .p x0 (S.p none) (SH.pc h9)) (fun v10 h11 => (kS v10 (fun h12 => (kA k 2 r6.1 h12 fun v15 h16 => (kT k 2 r3.1 v15 h16 fun r19 _ => (kA k 2 r3.1 r19.2 fun v21 h22 => (Tree.leaf v21 h22))))) (fun h13 => (kK (C 291 [x0, x1] h13) (fun v28 h29 => (kN k x0 h29 fun v33 h34 => (kF k 1 v33 h34 fun v36 h37 => (kL k v36 h37 fun v39 h40 => (sT251_8 C k r3.1 r6.1 v39 h40))))))) h11)) r6.2)) r3.2)) h)
theorem sp251 (C : CT) (k : Nat) : ds C k c251 (sQ251 C k) = fun e h => (sK251 C k (e 0) (e 1) h) := by
  refine Eq.trans (sseq_eq (sseq_eq (sseq_eq (sseq_eq (sseq_eq (sp251_1 C k) (sseq_eq (sblock_eq (sw251_2 C k)) rfl)) rfl) rfl) rfl) rfl) ?_
  kernel_rfl
def SF251 : SF := sf2 sK251
theorem so251 : SOK IP 251 SF251 := sok2 ir251 rfl (by kernel_rfl) (by kernel_rfl) fun C k x0 x1 h => congrFun (congrFun (sp251 C k) _) h
def sQ252 (C : CT) (k : Nat) : QT := QrS k rs252
def sT252_1 (C : CT) (k : Nat) (x26 : S) (h : SH) : Tree := (kK (C 290 [x26] h) (fun v2 h3 => (Tree.leaf (S.tup []) h3)))
def sT252_2 (C : CT) (k : Nat) (x0 x18 : S) (h : SH) : Tree := (kN k x18 h fun v2 h3 => (kF k 10 v2 h3 fun v5 h6 => (kT k 1 v5 (l64 0) h6 fun r9 _ => (kN k x0 r9.2 fun v13 h14 => (kF k 6 v13 h14 fun v16 h17 => (kL k v16 h17 fun v19 h20 => (sT252_1 C k v19 h20)))))))
def sT252_3 (C : CT) (k : Nat) (x0 x12 x15 : S) (h : SH) : Tree := (kF k 8 x15 h fun v2 h3 => (kT k 1 v2 x12 h3 fun r6 _ => (kN k x0 r6.2 fun v12 h13 => (kF k 9 v12 h13 fun v15 h16 => (kT k 1 v15 (l64 0) h16 fun r19 _ => (sT252_2 C k x0 x0 r19.2))))))
def sT252_4 (C : CT) (k : Nat) (x0 x5 x12 x13 : S) (h : SH) : Tree := (kF k 7 x13 h fun v2 h3 => (kT k 1 v2 (l64 1) h3 fun r6 _ => (kN k x5 r6.2 fun v8 h9 => (sT252_3 C k x0 x12 v8 h9))))
def sT252_5 (C : CT) (k : Nat) (x0 x4 x5 x6 x10 : S) (h : SH) : Tree := (kL k x10 h fun v2 h3 => (kK (C 75 [x6, v2] h3) (fun v5 h6 => (kN k x4 h6 fun v8 h9 => (sT252_4 C k x0 x5 v5 v8 h9)))))
def sK252 (C : CT) (k : Nat) (x0 x1 : S) (h : SH) : Tree := (kN k x0 h fun v10 h11 => (kF k 0 v10 h11 fun v13 h14 => (kF k 4 v13 h14 fun v16 h17 => (sT252_5 C k x0 x0 x0 x1 v16 h17))))
theorem sp252 (C : CT) (k : Nat) : ds C k c252 (sQ252 C k) = fun e h => (sK252 C k (e 0) (e 1) h) := by kernel_rfl
def SF252 : SF := sf2 sK252
theorem so252 : SOK IP 252 SF252 := sok2 ir252 rfl (by kernel_rfl) (by kernel_rfl) fun C k x0 x1 h => congrFun (congrFun (sp252 C k) _) h
def sQ253 (C : CT) (k : Nat) : QT := QrS k rs253
def sT253_1 (C : CT) (k : Nat) (x2 x4 x9 x11 x12 : S) (h : SH) : Tree := (kT k 1 x12 x9 h fun r3 _ => (kF k 9 x2 r3.2 fun v5 h6 => (kT k 1 v5 x11 h6 fun r9 _ => (kA k 11 x2 r9.2 fun v11 h12 => (kT k 11 x4 v11 h12 fun r15 _ => (kA k 11 x4 r15.2 fun v17 h18 => (Tree.leaf v17 h18)))))))
def sK253 (C : CT) (k : Nat) (x0 x1 : S) (h : SH) : Tree := (kB k (fun h1 => sBox x0 h1) (fun r3 _ => (kB k (fun h4 => sZero z9 h4) (fun r6 _ => (kB k (fun h9 => sMax x1 [(l64 0)] (SH.pc h9)) (fun v10 h11 => (kB k (fun h12 => sMin v10 [(l64 1099511627775)] (SH.pc h12)) (fun v13 h14 => (kB k (fun h19 => sCvi .u32 v13 (SH.pc h19)) (fun v20 h21 => (kI k .shr v13 (S.i .u64 (.lit 32)) h21 fun v25 h26 => (kF k 10 r3.1 h26 fun v28 h29 => (sT253_1 C k r3.1 r6.1 v20 v25 v28 h29)))) h14)) h11)) r6.2)) r3.2)) h)
theorem sp253 (C : CT) (k : Nat) : ds C k c253 (sQ253 C k) = fun e h => (sK253 C k (e 0) (e 1) h) := by kernel_rfl
def SF253 : SF := sf2 sK253
theorem so253 : SOK IP 253 SF253 := sok2 ir253 rfl (by kernel_rfl) (by kernel_rfl) fun C k x0 x1 h => congrFun (congrFun (sp253 C k) _) h
def sQ254 (C : CT) (k : Nat) : QT := QrS k rs254
def sT254_1 (C : CT) (k : Nat) (x5 x41 x43 : S) (h : SH) : Tree := (kT k 1 x43 x41 h fun r3 _ => (kA k 11 x5 r3.2 fun v5 h6 => (kB k (fun h7 => sBld z4 [(0, 1, (l64 1)), (1, 11, v5)]) (fun v8 h9 => (kB k (fun h10 => sNewSl 1 z4 [(0, 17, v8)] h10) (fun r12 _ => (Tree.leaf r12.1 r12.2)) h9)) h6)))
def sT254_2 (C : CT) (k : Nat) (x0 x1 x5 x36 x38 : S) (h : SH) : Tree := (kT k 1 x38 x36 h fun r3 _ => (kK (C 128 [x1] r3.2) (fun v9 h10 => (kN k x0 h10 fun v12 h13 => (kF k 18 v12 h13 fun v15 h16 => (sT254_1 C k x5 v9 v15 h16))))))
def sT254_3 (C : CT) (k : Nat) (x0 x1 x5 x32 x35 : S) (h : SH) : Tree := (kI k .add x35 (l64 1) h fun v2 h3 => (kN k x32 h3 fun v5 h6 => (kF k 14 v5 h6 fun v8 h9 => (sT254_2 C k x0 x1 x5 v2 v8 h9))))
def sT254_4 (C : CT) (k : Nat) (x0 x1 x5 x29 x30 : S) (h : SH) : Tree := (kF k 15 x30 h fun v2 h3 => (kT k 1 v2 x29 h3 fun r6 _ => (kN k x0 r6.2 fun v10 h11 => (kF k 14 v10 h11 fun v13 h14 => (kL k v13 h14 fun v16 h17 => (sT254_3 C k x0 x1 x5 x0 v16 h17))))))
def sT254_5 (C : CT) (k : Nat) (x0 x1 x5 x20 x23 x27 : S) (h : SH) : Tree := (kI k .shl (l64 1) x27 h fun v2 h3 => (kI k .or x23 v2 h3 fun v5 h6 => (kN k x20 h6 fun v8 h9 => (sT254_4 C k x0 x1 x5 v5 v8 h9))))
def sT254_6 (C : CT) (k : Nat) (x0 x1 x5 x20 x23 x24 : S) (h : SH) : Tree := (kN k x24 h fun v2 h3 => (kF k 14 v2 h3 fun v5 h6 => (kL k v5 h6 fun v8 h9 => (sT254_5 C k x0 x1 x5 x20 x23 v8 h9))))
def sT254_7 (C : CT) (k : Nat) (x0 x1 x5 x18 : S) (h : SH) : Tree := (kF k 6 x5 h fun v2 h3 => (kT k 1 v2 x18 h3 fun r6 _ => (kN k x0 r6.2 fun v10 h11 => (kF k 15 v10 h11 fun v13 h14 => (kL k v13 h14 fun v16 h17 => (sT254_6 C k x0 x1 x5 x0 v16 x0 h17))))))
def sT254_8 (C : CT) (k : Nat) (x0 x1 x14 : S) (h : SH) : Tree := (kB k (fun h1 => sZero z9 h1) (fun r3 _ => (kT k 11 r3.1 x14 r3.2 fun r6 _ => (kN k x0 r6.2 fun v10 h11 => (kF k 14 v10 h11 fun v13 h14 => (kL k v13 h14 fun v16 h17 => (sT254_7 C k x0 x1 r3.1 v16 h17)))))) h)
def sT254_9 (C : CT) (k : Nat) (x0 x1 x9 : S) (h : SH) : Tree := (kI k .gtr x9 (l64 15) h fun v2 h3 => (kS v2 (fun h4 => (Tree.leaf S.nsl h4)) (fun h5 => (kN k x0 h5 fun v11 h12 => (kF k 0 v11 h12 fun v14 h15 => (kA k 11 v14 h15 fun v17 h18 => (sT254_8 C k x0 x1 v17 h18))))) h3))
def sK254 (C : CT) (k : Nat) (x0 x1 : S) (h : SH) : Tree := (kN k x0 h fun v6 h7 => (kF k 14 v6 h7 fun v9 h10 => (kL k v9 h10 fun v12 h13 => (sT254_9 C k x0 x1 v12 h13))))
theorem sp254 (C : CT) (k : Nat) : ds C k c254 (sQ254 C k) = fun e h => (sK254 C k (e 0) (e 1) h) := by kernel_rfl
def SF254 : SF := sf2 sK254
theorem so254 : SOK IP 254 SF254 := sok2 ir254 rfl (by kernel_rfl) (by kernel_rfl) fun C k x0 x1 h => congrFun (congrFun (sp254 C k) _) h
def sQ255 (C : CT) (k : Nat) : QT := QrS k rs255
def sT255_1 (C : CT) (k : Nat) (x34 x39 x44 x49 : S) (h : SH) : Tree := (kB k (fun h1 => sBld z10 [(0, 1, x34), (1, 1, x39), (2, 1, x44), (3, 1, x49), (4, 1, (l64 3))]) (fun v2 h3 => (kB k (fun h4 => sBld z4 [(0, 1, (l64 2)), (12, 5, v2)]) (fun v5 h6 => (kB k (fun h7 => sNewSl 1 z4 [(0, 17, v5)] h7) (fun r9 _ => (Tree.leaf r9.1 r9.2)) h6)) h3)) h)
def sT255_2 (C : CT) (k : Nat) (x34 x39 x44 x46 : S) (h : SH) : Tree := (kF k 0 x46 h fun v2 h3 => (kF k 4 v2 h3 fun v5 h6 => (kL k v5 h6 fun v8 h9 => (sT255_1 C k x34 x39 x44 v8 h9))))
def sT255_3 (C : CT) (k : Nat) (x0 x34 x39 x42 : S) (h : SH) : Tree := (kF k 3 x42 h fun v2 h3 => (kL k v2 h3 fun v5 h6 => (kN k x0 h6 fun v10 h11 => (sT255_2 C k x34 x39 v5 v10 h11))))
def sT255_4 (C : CT) (k : Nat) (x0 x34 x38 : S) (h : SH) : Tree := (kL k x38 h fun v2 h3 => (kN k x0 h3 fun v7 h8 => (kF k 0 v7 h8 fun v10 h11 => (sT255_3 C k x0 x34 v2 v10 h11))))
def sT255_5 (C : CT) (k : Nat) (x0 x3 x27 x32 : S) (h : SH) : Tree := (kB k (fun h1 => sPick x27 (S.b true) x32 (SH.pc h1)) (fun v2 h3 => (kS v2 (fun h4 => (Tree.leaf S.nsl h4)) (fun h5 => (kN k x0 h5 fun v13 h14 => (kF k 0 v13 h14 fun v16 h17 => (kF k 1 v16 h17 fun v19 h20 => (sT255_4 C k x0 x3 v19 h20))))) h3)) h)
def sT255_6 (C : CT) (k : Nat) (x0 x3 x27 x29 : S) (h : SH) : Tree := (kB k (gd x27 false uS (fun h1 => sFa 14 x29)) (fun v2 h3 => (kB k (gd x27 false uS (fun h4 => sLd1 v2 h4)) (fun v5 h6 => (kB k (gd x27 false uS (fun h7 => sBin .gtr v5 (l64 15) (SH.pc h7))) (fun v8 h9 => (sT255_5 C k x0 x3 x27 v8 h9)) h6)) h3)) h)
def sT255_7 (C : CT) (k : Nat) (x0 x7 x11 x15 x19 x23 : S) (h : SH) : Tree := (kK (C 293 [x7, x11, x15, x19, x23] h) (fun v2 h3 => (kI k .eql v2 (l64 1099511627776) h3 fun v9 h10 => (kB k (gd v9 false uS (fun h13 => Res.ok x0)) (fun v14 h15 => (kB k (gd v9 false uS (fun h16 => sNilc v14)) (fun v17 h18 => (sT255_6 C k x0 v2 v9 v17 h18)) h15)) h10))))
def sT255_8 (C : CT) (k : Nat) (x0 x7 x11 x15 x19 x20 : S) (h : SH) : Tree := (kN k x20 h fun v2 h3 => (kF k 11 v2 h3 fun v5 h6 => (kL k v5 h6 fun v8 h9 => (sT255_7 C k x0 x7 x11 x15 x19 v8 h9))))
def sT255_9 (C : CT) (k : Nat) (x0 x7 x11 x15 x16 : S) (h : SH) : Tree := (kN k x16 h fun v2 h3 => (kF k 18 v2 h3 fun v5 h6 => (kL k v5 h6 fun v8 h9 => (sT255_8 C k x0 x7 x11 x15 v8 x0 h9))))
def sT255_10 (C : CT) (k : Nat) (x0 x7 x11 x12 : S) (h : SH) : Tree := (kN k x12 h fun v2 h3 => (kF k 17 v2 h3 fun v5 h6 => (kL k v5 h6 fun v8 h9 => (sT255_9 C k x0 x7 x11 v8 x0 h9))))
def sT255_11 (C : CT) (k : Nat) (x0 x7 x8 : S) (h : SH) : Tree := (kN k x8 h fun v2 h3 => (kF k 0 v2 h3 fun v5 h6 => (kA k 11 v5 h6 fun v8 h9 => (sT255_10 C k x0 x7 v8 x0 h9))))
def sK255 (C : CT) (k : Nat) (x0 : S) (h : SH) : Tree := (kN k x0 h fun v6 h7 => (kF k 12 v6 h7 fun v9 h10 => (kA k 2 v9 h10 fun v12 h13 => (sT255_11 C k x0 v12 x0 h13))))
theorem sp255 (C : CT) (k : Nat) : ds C k c255 (sQ255 C k) = fun e h => (sK255 C k (e 0) h) := by kernel_rfl
def SF255 : SF := sf1 sK255
theorem so255 : SOK IP 255 SF255 := sok1 ir255 rfl (by kernel_rfl) (by kernel_rfl) fun C k x0 h => congrFun (congrFun (sp255 C k) _) h
def sQ256 (C : CT) (k : Nat) : QT := QrS k rs256
def sK256 (C : CT) (k : Nat) (x0 : S) (h : SH) : Tree := (kB k (fun h1 => sBox x0 h1) (fun r3 _ => (kF k 3 r3.1 r3.2 fun v7 h8 => (kL k v7 h8 fun v10 h11 => (kI k .neq v10 (l64 2) h11 fun v13 h14 => (kS v13 (fun h15 => (Tree.leaf (S.i .u64 (.lit 0)) h15)) (fun h16 => (kF k 4 r3.1 h16 fun v20 h21 => (kL k v20 h21 fun v23 h24 => (Tree.leaf v23 h24)))) h14))))) h)
theorem sp256 (C : CT) (k : Nat) : ds C k c256 (sQ256 C k) = fun e h => (sK256 C k (e 0) h) := by kernel_rfl
def SF256 : SF := sf1 sK256
theorem so256 : SOK IP 256 SF256 := sok1 ir256 rfl (by kernel_rfl) (by kernel_rfl) fun C k x0 h => congrFun (congrFun (sp256 C k) _) h
def sQ257 (C : CT) (k : Nat) : QT := QrS k rs257
def sQ257_1 (C : CT) (k : Nat) : QT := (sQ257 C k)
def sK257_1 (C : CT) (k : Nat) (x0 x5 : S) (h : SH) : Tree := (kB k (fun h5 => sSls 1 x0 (some x5) none none (SH.pc h5)) (fun v6 h7 => (kB k (fun h8 => sClear [(.p none)] v6 h8) (fun r10 _ => (kB k (fun h15 => sSls 1 x0 none (some x5) none (SH.pc h15)) (fun v16 h17 => (Tree.leaf v16 h17)) r10.2)) h7)) h)
def sJ257_1 (C : CT) (k : Nat) : ES → SH → Tree := fun e h => (sK257_1 C k (e 0) (e 5) h)
theorem sp257_1 (C : CT) (k : Nat) : ds C k c257_1 (sQ257_1 C k) = (sJ257_1 C k) := by kernel_rfl
def sR257_2 (C : CT) (k : Nat) : QT := (QbS 0 (QxS (sJ257_1 C k) (sQ257 C k)))
def sQ257_2 (C : CT) (k : Nat) (g257_2 : S → S → S → S → SH → Tree) : QT := QxS (fun e h => g257_2 (e 0) (e 1) (e 5) (e 6) h) (sR257_2 C k)
def sQ257_3 (C : CT) (k : Nat) (g257_2 : S → S → S → S → SH → Tree) : QT := (sQ257_2 C k g257_2)
def sK257_3 (C : CT) (k : Nat) (g257_2 : S → S → S → S → SH → Tree) (x0 x1 x5 x6 : S) (h : SH) : Tree := (kI k .add x6 (l64 1) h fun v4 h5 => (g257_2 x0 x1 x5 v4 h5))
def sJ257_3 (C : CT) (k : Nat) (g257_2 : S → S → S → S → SH → Tree) : ES → SH → Tree := fun e h => (sK257_3 C k g257_2 (e 0) (e 1) (e 5) (e 6) h)
theorem sp257_3 (C : CT) (k : Nat) (g257_2 : S → S → S → S → SH → Tree) : ds C k c257_3 (sQ257_3 C k g257_2) = (sJ257_3 C k g257_2) := by kernel_rfl
def sT257_4 (C : CT) (k : Nat) (g257_2 : S → S → S → S → SH → Tree) (x0 x1 x5 x6 x7 : S) (h : SH) : Tree := (kB k (fun h7 => sIa 1 x0 x5 (SH.pc h7)) (fun v8 h9 => (kT k 1 v8 x7 h9 fun r12 _ => (kI k .add x5 (l64 1) r12.2 fun v16 h17 => (sK257_3 C k g257_2 x0 x1 v16 x6 h17)))) h)
def sL257_2 (C : CT) (k : Nat) (g257_2 : S → S → S → S → SH → Tree) (x0 x1 x5 x6 : S) (h : SH) : Tree := (kB k (fun h5 => sLens x0) (fun v6 h7 => (kI k .lss x6 v6 h7 fun v9 h10 => (kS v9 (fun h11 => (kB k (fun h17 => sIa 1 x0 x6 (SH.pc h17)) (fun v18 h19 => (kL k v18 h19 fun v21 h22 => (kK (kV C x1 [v21] h22) (fun v30 h31 => (kB k (fun h32 => sUn .not v30 (SH.pc h32)) (fun v33 h34 => (kS v33 (fun h35 => (sT257_4 C k g257_2 x0 x1 x5 x6 v21 h35)) (fun h36 => (sK257_3 C k g257_2 x0 x1 x5 x6 h36)) h34)) h31))))) h11)) (fun h12 => (sK257_1 C k x0 x5 h12)) h10))) h)
theorem sp257_2 (C : CT) (k : Nat) (g257_2 : S → S → S → S → SH → Tree) : ds C k c257_2 (sQ257_2 C k g257_2) = fun e h => (sL257_2 C k g257_2 (e 0) (e 1) (e 5) (e 6) h) := by
  refine Eq.trans (sseq_eq (sseq_eq (sp257_3 C k g257_2) rfl) rfl) ?_
  kernel_rfl
def sW257_2 (C : CT) (k : Nat) (x0 x1 x5 x6 : S) (h : SH) : Tree := kFix k (fun (g : S × S × S × S × Unit → SH → Tree) (x : S × S × S × S × Unit) h => sL257_2 C k (fun y0 y1 y5 y6 h => g (y0, y1, y5, y6, ()) h) x.1 x.2.1 x.2.2.1 x.2.2.2.1 h) (x0, x1, x5, x6, ()) h
theorem sn257_2 (C : CT) (k : Nat) : ∀ g : S × S × S × S × Unit → SH → Tree, ds C k c257_2 (QxS (fun e h => g ((fun e : ES => ((e 0, e 1, e 5, e 6, ()) : S × S × S × S × Unit)) e) h) (sR257_2 C k)) = fun e h => (fun (g : S × S × S × S × Unit → SH → Tree) (x : S × S × S × S × Unit) h => sL257_2 C k (fun y0 y1 y5 y6 h => g (y0, y1, y5, y6, ()) h) x.1 x.2.1 x.2.2.1 x.2.2.2.1 h) g ((fun e : ES => ((e 0, e 1, e 5, e 6, ()) : S × S × S × S × Unit)) e) h := fun g => sp257_2 C k (fun y0 y1 y5 y6 h => g (y0, y1, y5, y6, ()) h)
theorem sw257_2 (C : CT) (k : Nat) : ds C k (.loop c257_2) (sR257_2 C k) = fun e h => (sW257_2 C k (e 0) (e 1) (e 5) (e 6) h) := sloop_eq (fun e : ES => ((e 0, e 1, e 5, e 6, ()) : S × S × S × S × Unit)) (fun (g : S × S × S × S × Unit → SH → Tree) (x : S × S × S × S × Unit) h => sL257_2 C k (fun y0 y1 y5 y6 h => g (y0, y1, y5, y6, ()) h) x.1 x.2.1 x.2.2.1 x.2.2.2.1 h) (sn257_2 C k)
def sK257 (C : CT) (k : Nat) (x0 x1 : S) (h : SH) : Tree := (kK (C 102 [x0, x1] h) (fun v8 h9 => (kI k .eql v8 (S.i .i64 (.lit (-1))) h9 fun v15 h16 => (kS v15 (fun h17 => (Tree.leaf x0 h17)) (fun h18 => (kI k .add v8 (l64 1) h18 fun v26 h27 => (sW257_2 C k x0 x1 v8 v26 h27))) h16))))
theorem sp257 (C : CT) (k : Nat) : ds C k c257 (sQ257 C k) = fun e h => (sK257 C k (e 0) (e 1) h) := by
  refine Eq.trans (sseq_eq (sseq_eq (sseq_eq (sseq_eq (sp257_1 C k) (sseq_eq (sblock_eq (sw257_2 C k)) rfl)) rfl) rfl) rfl) ?_
  kernel_rfl
def SF257 : SF := sf2 sK257
theorem so257 : SOK IP 257 SF257 := sok2 ir257 rfl (by kernel_rfl) (by kernel_rfl) fun C k x0 x1 h => congrFun (congrFun (sp257 C k) _) h
def sQ258 (C : CT) (k : Nat) : QT := QrS k rs258
def sT258_1 (C : CT) (k : Nat) (x1 x7 : S) (h : SH) : Tree := (kL k x7 h fun v2 h3 => (kL k x1 h3 fun v5 h6 => (kI k .eql v2 v5 h6 fun v8 h9 => (Tree.leaf v8 h9))))
def sK258 (C : CT) (k : Nat) (x0 x1 : S) (h : SH) : Tree := (kN k x0 h fun v6 h7 => (kF k 0 v6 h7 fun v9 h10 => (kF k 5 v9 h10 fun v12 h13 => (sT258_1 C k x1 v12 h13))))
theorem sp258 (C : CT) (k : Nat) : ds C k c258 (sQ258 C k) = fun e h => (sK258 C k (e 0) (e 1) h) := by kernel_rfl
def SF258 : SF := sf2 sK258
theorem so258 : SOK IP 258 SF258 := sok2 ir258 rfl (by kernel_rfl) (by kernel_rfl) fun C k x0 x1 h => congrFun (congrFun (sp258 C k) _) h
def sQ285 (C : CT) (k : Nat) : QT := QrS k rs285
def sT285_1 (C : CT) (k : Nat) (x4 x41 x42 : S) (h : SH) : Tree := (kB k (fun h1 => sIa 1 x41 x42 (SH.pc h1)) (fun v2 h3 => (kT k 1 v2 (S.b false) h3 fun r6 _ => (Tree.leaf (S.tup [x4, (S.b true)]) r6.2))) h)
def sT285_2 (C : CT) (k : Nat) (x0 x4 x35 x37 : S) (h : SH) : Tree := (kT k 1 x37 x35 h fun r3 _ => (kN k x0 r3.2 fun v7 h8 => (kF k 4 v7 h8 fun v10 h11 => (kL k v10 h11 fun v13 h14 => (sT285_1 C k x4 v13 x4 h14)))))
def sT285_3 (C : CT) (k : Nat) (x0 x4 x31 x34 : S) (h : SH) : Tree := (kI k .sub x34 (l64 1) h fun v2 h3 => (kN k x31 h3 fun v5 h6 => (kF k 3 v5 h6 fun v8 h9 => (sT285_2 C k x0 x4 v2 v8 h9))))
def sT285_4 (C : CT) (k : Nat) (x0 x4 x28 x29 : S) (h : SH) : Tree := (kF k 2 x29 h fun v2 h3 => (kT k 1 v2 x28 h3 fun r6 _ => (kN k x0 r6.2 fun v10 h11 => (kF k 3 v10 h11 fun v13 h14 => (kL k v13 h14 fun v16 h17 => (sT285_3 C k x0 x4 x0 v16 h17))))))
def sT285_5 (C : CT) (k : Nat) (x0 x4 x18 x23 x26 : S) (h : SH) : Tree := (kL k x26 h fun v2 h3 => (kI k .rem x23 v2 h3 fun v5 h6 => (kN k x18 h6 fun v8 h9 => (sT285_4 C k x0 x4 v5 v8 h9))))
def sT285_6 (C : CT) (k : Nat) (x0 x4 x18 x22 : S) (h : SH) : Tree := (kI k .add x22 (l64 1) h fun v2 h3 => (kN k x0 h3 fun v7 h8 => (kF k 0 v7 h8 fun v10 h11 => (sT285_5 C k x0 x4 x18 v2 v10 h11))))
def sT285_7 (C : CT) (k : Nat) (x0 x11 x15 : S) (h : SH) : Tree := (kB k (fun h1 => sIa 1 x11 x15 (SH.pc h1)) (fun v2 h3 => (kL k v2 h3 fun v5 h6 => (kN k x0 h6 fun v14 h15 => (kF k 2 v14 h15 fun v17 h18 => (kL k v17 h18 fun v20 h21 => (sT285_6 C k x0 v5 x0 v20 h21)))))) h)
def sT285_8 (C : CT) (k : Nat) (x0 x11 x12 : S) (h : SH) : Tree := (kN k x12 h fun v2 h3 => (kF k 2 v2 h3 fun v5 h6 => (kL k v5 h6 fun v8 h9 => (sT285_7 C k x0 x11 v8 h9))))
def sK285 (C : CT) (k : Nat) (x0 : S) (h : SH) : Tree := (kK (C 55 [x0] h) (fun v8 h9 => (kI k .eql v8 (l64 0) h9 fun v11 h12 => (kS v11 (fun h13 => (Tree.leaf (S.tup [(l64 0), (S.b false)]) h13)) (fun h14 => (kN k x0 h14 fun v22 h23 => (kF k 1 v22 h23 fun v25 h26 => (kL k v25 h26 fun v28 h29 => (sT285_8 C k x0 v28 x0 h29))))) h12))))
theorem sp285 (C : CT) (k : Nat) : ds C k c285 (sQ285 C k) = fun e h => (sK285 C k (e 0) h) := by kernel_rfl
def SF285 : SF := sf1 sK285
theorem so285 : SOK IP 285 SF285 := sok1 ir285 rfl (by kernel_rfl) (by kernel_rfl) fun C k x0 h => congrFun (congrFun (sp285 C k) _) h
def sQ286 (C : CT) (k : Nat) : QT := QrS k rs286
def sT286_1 (C : CT) (k : Nat) (x58 x59 : S) (h : SH) : Tree := (kB k (fun h1 => sIa 1 x58 x59 (SH.pc h1)) (fun v2 h3 => (kT k 1 v2 (S.b true) h3 fun r6 _ => (Tree.leaf (S.b true) r6.2))) h)
def sT286_2 (C : CT) (k : Nat) (x0 x1 x52 x54 : S) (h : SH) : Tree := (kT k 1 x54 x52 h fun r3 _ => (kN k x0 r3.2 fun v7 h8 => (kF k 4 v7 h8 fun v10 h11 => (kL k v10 h11 fun v13 h14 => (sT286_1 C k v13 x1 h14)))))
def sT286_3 (C : CT) (k : Nat) (x0 x1 x48 x51 : S) (h : SH) : Tree := (kI k .add x51 (l64 1) h fun v2 h3 => (kN k x48 h3 fun v5 h6 => (kF k 3 v5 h6 fun v8 h9 => (sT286_2 C k x0 x1 v2 v8 h9))))
def sT286_4 (C : CT) (k : Nat) (x0 x1 x46 x47 : S) (h : SH) : Tree := (kT k 1 x47 x46 h fun r3 _ => (kN k x0 r3.2 fun v7 h8 => (kF k 3 v7 h8 fun v10 h11 => (kL k v10 h11 fun v13 h14 => (sT286_3 C k x0 x1 x0 v13 h14)))))
def sT286_5 (C : CT) (k : Nat) (x0 x1 x31 x40 x43 : S) (h : SH) : Tree := (kL k x43 h fun v2 h3 => (kI k .rem x40 v2 h3 fun v5 h6 => (kB k (fun h9 => sIa 1 x31 v5 (SH.pc h9)) (fun v10 h11 => (sT286_4 C k x0 x1 x1 v10 h11)) h6)))
def sT286_6 (C : CT) (k : Nat) (x0 x1 x31 x35 x39 : S) (h : SH) : Tree := (kI k .add x35 x39 h fun v2 h3 => (kN k x0 h3 fun v7 h8 => (kF k 0 v7 h8 fun v10 h11 => (sT286_5 C k x0 x1 x31 v2 v10 h11))))
def sT286_7 (C : CT) (k : Nat) (x0 x1 x31 x35 x36 : S) (h : SH) : Tree := (kN k x36 h fun v2 h3 => (kF k 3 v2 h3 fun v5 h6 => (kL k v5 h6 fun v8 h9 => (sT286_6 C k x0 x1 x31 x35 v8 h9))))
def sT286_8 (C : CT) (k : Nat) (x0 x1 x31 x32 : S) (h : SH) : Tree := (kN k x32 h fun v2 h3 => (kF k 2 v2 h3 fun v5 h6 => (kL k v5 h6 fun v8 h9 => (sT286_7 C k x0 x1 x31 v8 x0 h9))))
def sT286_9 (C : CT) (k : Nat) (x0 x1 x19 x26 : S) (h : SH) : Tree := (kB k (fun h1 => sPick x19 (S.b true) x26 (SH.pc h1)) (fun v2 h3 => (kS v2 (fun h4 => (Tree.leaf (S.b false) h4)) (fun h5 => (kN k x0 h5 fun v11 h12 => (kF k 1 v11 h12 fun v14 h15 => (kL k v14 h15 fun v17 h18 => (sT286_8 C k x0 x1 v17 x0 h18))))) h3)) h)
def sT286_10 (C : CT) (k : Nat) (x0 x1 x19 x23 : S) (h : SH) : Tree := (kB k (gd x19 false uS (fun h1 => Res.ok x1)) (fun v2 h3 => (kB k (gd x19 false uS (fun h4 => sIa 1 x23 v2 (SH.pc h4))) (fun v5 h6 => (kB k (gd x19 false uS (fun h7 => sLd1 v5 h7)) (fun v8 h9 => (sT286_9 C k x0 x1 x19 v8 h9)) h6)) h3)) h)
def sT286_11 (C : CT) (k : Nat) (x0 x1 x19 x20 : S) (h : SH) : Tree := (kB k (gd x19 false uS (fun h1 => sNilc x20)) (fun v2 h3 => (kB k (gd x19 false uS (fun h4 => sFa 4 v2)) (fun v5 h6 => (kB k (gd x19 false uS (fun h7 => sLd1 v5 h7)) (fun v8 h9 => (sT286_10 C k x0 x1 x19 v8 h9)) h6)) h3)) h)
def sT286_12 (C : CT) (k : Nat) (x0 x1 x11 x12 x16 : S) (h : SH) : Tree := (kB k (gd x11 false uS (fun h1 => sBin .geq x12 x16 (SH.pc h1))) (fun v2 h3 => (kB k (fun h4 => sPick x11 (S.b true) v2 (SH.pc h4)) (fun v5 h6 => (kB k (gd v5 false uS (fun h9 => Res.ok x0)) (fun v10 h11 => (sT286_11 C k x0 x1 v5 v10 h11)) h6)) h3)) h)
def sT286_13 (C : CT) (k : Nat) (x0 x1 x11 x12 x13 : S) (h : SH) : Tree := (kB k (gd x11 false uS (fun h1 => sNilc x13)) (fun v2 h3 => (kB k (gd x11 false uS (fun h4 => sFa 0 v2)) (fun v5 h6 => (kB k (gd x11 false uS (fun h7 => sLd1 v5 h7)) (fun v8 h9 => (sT286_12 C k x0 x1 x11 x12 v8 h9)) h6)) h3)) h)
def sT286_14 (C : CT) (k : Nat) (x0 x1 x7 x9 : S) (h : SH) : Tree := (kB k (fun h1 => sPick x7 (S.b true) x9 (SH.pc h1)) (fun v2 h3 => (kB k (gd v2 false uS (fun h6 => Res.ok x1)) (fun v7 h8 => (kB k (gd v2 false uS (fun h9 => Res.ok x0)) (fun v10 h11 => (sT286_13 C k x0 x1 v2 v7 v10 h11)) h8)) h3)) h)
def sK286 (C : CT) (k : Nat) (x0 x1 : S) (h : SH) : Tree := (kB k (fun h5 => sEqz false .p x0 (S.p none) (SH.pc h5)) (fun v6 h7 => (kB k (gd v6 false uS (fun h10 => Res.ok x1)) (fun v11 h12 => (kB k (gd v6 false uS (fun h13 => sBin .lss v11 (l64 0) (SH.pc h13))) (fun v14 h15 => (sT286_14 C k x0 x1 v6 v14 h15)) h12)) h7)) h)
theorem sp286 (C : CT) (k : Nat) : ds C k c286 (sQ286 C k) = fun e h => (sK286 C k (e 0) (e 1) h) := by kernel_rfl
def SF286 : SF := sf2 sK286
theorem so286 : SOK IP 286 SF286 := sok2 ir286 rfl (by kernel_rfl) (by kernel_rfl) fun C k x0 x1 h => congrFun (congrFun (sp286 C k) _) h
def sQ290 (C : CT) (k : Nat) : QT := QrS k rs290
def sT290_1 (C : CT) (k : Nat) (x7 : S) (h : SH) : Tree := (kB k (fun h1 => sClear [(.i .i64 0), (.i .i64 0)] x7 h1) (fun r3 _ => (Tree.leaf (S.tup []) r3.2)) h)
def sT290_2 (C : CT) (k : Nat) (x0 : S) (h : SH) : Tree := (kN k x0 h fun v4 h5 => (kF k 1 v4 h5 fun v7 h8 => (kL k v7 h8 fun v10 h11 => (sT290_1 C k v10 h11))))
def sK290 (C : CT) (k : Nat) (x0 : S) (h : SH) : Tree := (kB k (fun h3 => sEqz true .p x0 (S.p none) (SH.pc h3)) (fun v4 h5 => (kS v4 (fun h6 => (sT290_2 C k x0 h6)) (fun h7 => (Tree.leaf (S.tup []) h7)) h5)) h)
theorem sp290 (C : CT) (k : Nat) : ds C k c290 (sQ290 C k) = fun e h => (sK290 C k (e 0) h) := by kernel_rfl
def SF290 : SF := sf1 sK290
theorem so290 : SOK IP 290 SF290 := sok1 ir290 rfl (by kernel_rfl) (by kernel_rfl) fun C k x0 h => congrFun (congrFun (sp290 C k) _) h
def sQ291 (C : CT) (k : Nat) : QT := QrS k rs291
def sQ291_1 (C : CT) (k : Nat) : QT := (sQ291 C k)
def sR291_2 (C : CT) (k : Nat) : QT := (QbS 0 (sQ291_1 C k))
def sQ291_2 (C : CT) (k : Nat) (g291_2 : S → S → SH → Tree) : QT := QxS (fun e h => g291_2 (e 0) (e 4) h) (sR291_2 C k)
def sT291_3 (C : CT) (k : Nat) (g291_2 : S → S → SH → Tree) (x0 x4 x53 x54 : S) (h : SH) : Tree := (kT k 2 x54 x53 h fun r3 _ => (g291_2 x0 x4 r3.2))
def sT291_4 (C : CT) (k : Nat) (g291_2 : S → S → SH → Tree) (x0 x4 x47 x51 : S) (h : SH) : Tree := (kK (C 292 [x47, x51] h) (fun v2 h3 => (kB k (fun h4 => sBld z19 []) (fun v5 h6 => (kN k v2 h6 fun v8 h9 => (sT291_3 C k g291_2 x0 x4 v5 v8 h9))) h3)))
def sT291_5 (C : CT) (k : Nat) (g291_2 : S → S → SH → Tree) (x0 x4 x44 x46 : S) (h : SH) : Tree := (kT k 1 x46 x44 h fun r3 _ => (kN k x0 r3.2 fun v9 h10 => (kF k 2 v9 h10 fun v12 h13 => (kL k v12 h13 fun v15 h16 => (sT291_4 C k g291_2 x0 x4 x0 v15 h16)))))
def sT291_6 (C : CT) (k : Nat) (g291_2 : S → S → SH → Tree) (x0 x4 x40 x43 : S) (h : SH) : Tree := (kI k .add x43 (l64 1) h fun v2 h3 => (kN k x40 h3 fun v5 h6 => (kF k 2 v5 h6 fun v8 h9 => (sT291_5 C k g291_2 x0 x4 v2 v8 h9))))
def sT291_7 (C : CT) (k : Nat) (g291_2 : S → S → SH → Tree) (x0 x4 x37 x38 : S) (h : SH) : Tree := (kI k .lss x37 x38 h fun v2 h3 => (kS v2 (fun h4 => (kN k x0 h4 fun v9 h10 => (kF k 2 v9 h10 fun v12 h13 => (kL k v12 h13 fun v15 h16 => (sT291_6 C k g291_2 x0 x4 x0 v15 h16))))) (fun h5 => (Tree.leaf (S.tup []) h5)) h3))
def sL291_2 (C : CT) (k : Nat) (g291_2 : S → S → SH → Tree) (x0 x4 : S) (h : SH) : Tree := (kN k x0 h fun v4 h5 => (kF k 2 v4 h5 fun v7 h8 => (kL k v7 h8 fun v10 h11 => (sT291_7 C k g291_2 x0 x4 v10 x4 h11))))
theorem sp291_2 (C : CT) (k : Nat) (g291_2 : S → S → SH → Tree) : ds C k c291_2 (sQ291_2 C k g291_2) = fun e h => (sL291_2 C k g291_2 (e 0) (e 4) h) := by kernel_rfl
def sW291_2 (C : CT) (k : Nat) (x0 x4 : S) (h : SH) : Tree := kFix k (fun (g : S × S × Unit → SH → Tree) (x : S × S × Unit) h => sL291_2 C k (fun y0 y4 h => g (y0, y4, ()) h) x.1 x.2.1 h) (x0, x4, ()) h
theorem sn291_2 (C : CT) (k : Nat) : ∀ g : S × S × Unit → SH → Tree, ds C k c291_2 (QxS (fun e h => g ((fun e : ES => ((e 0, e 4, ()) : S × S × Unit)) e) h) (sR291_2 C k)) = fun e h => (fun (g : S × S × Unit → SH → Tree) (x : S × S × Unit) h => sL291_2 C k (fun y0 y4 h => g (y0, y4, ()) h) x.1 x.2.1 h) g ((fun e : ES => ((e 0, e 4, ()) : S × S × Unit)) e) h := fun g => sp291_2 C k (fun y0 y4 h => g (y0, y4, ()) h)
theorem sw291_2 (C : CT) (k : Nat) : ds C k (.loop c291_2) (sR291_2 C k) = fun e h => (sW291_2 C k (e 0) (e 4) h) := sloop_eq (fun e : ES => ((e 0, e 4, ()) : S × S × Unit)) (fun (g : S × S × Unit → SH → Tree) (x : S × S × Unit) h => sL291_2 C k (fun y0 y4 h => g (y0, y4, ()) h) x.1 x.2.1 h) (sn291_2 C k)
def sK291_1 (C : CT) (k : Nat) (x0 x4 : S) (h : SH) : Tree := (sW291_2 C k x0 x4 h)
def sJ291_1 (C : CT) (k : Nat) : ES → SH → Tree := fun e h => (sK291_1 C k (e 0) (e 4) h)
theorem sp291_1 (C : CT) (k : Nat) : ds C k c291_1 (sQ291_1 C k) = (sJ291_1 C k) := by
  refine Eq.trans (sblock_eq (sw291_2 C k)) ?_
  kernel_rfl
def sT291_8 (C : CT) (k : Nat) (x0 x4 x31 x32 : S) (h : SH) : Tree := (kF k 2 x32 h fun v2 h3 => (kT k 1 v2 x31 h3 fun r6 _ => (sK291_1 C k x0 x4 r6.2)))
def sT291_9 (C : CT) (k : Nat) (x0 x4 x24 x25 x29 : S) (h : SH) : Tree := (kB k (fun h1 => sLens x29) (fun v2 h3 => (kI k .sub x25 v2 h3 fun v5 h6 => (kN k x24 h6 fun v8 h9 => (sT291_8 C k x0 x4 v5 v8 h9)))) h)
def sT291_10 (C : CT) (k : Nat) (x0 x4 : S) (h : SH) : Tree := (kN k x0 h fun v8 h9 => (kF k 1 v8 h9 fun v11 h12 => (kL k v11 h12 fun v14 h15 => (sT291_9 C k x0 x4 x0 x4 v14 h15))))
def sT291_11 (C : CT) (k : Nat) (x0 x4 x17 x20 : S) (h : SH) : Tree := (kL k x20 h fun v2 h3 => (kB k (fun h4 => sLens v2) (fun v5 h6 => (kI k .geq x17 v5 h6 fun v8 h9 => (kS v8 (fun h10 => (sT291_10 C k x0 x4 h10)) (fun h11 => (sK291_1 C k x0 x4 h11)) h9))) h3))
def sT291_12 (C : CT) (k : Nat) (x0 x4 x12 x16 : S) (h : SH) : Tree := (kI k .sub x12 x16 h fun v2 h3 => (kN k x0 h3 fun v7 h8 => (kF k 1 v7 h8 fun v10 h11 => (sT291_11 C k x0 x4 v2 v10 h11))))
def sK291 (C : CT) (k : Nat) (x0 x1 : S) (h : SH) : Tree := (kK (C 128 [x1] h) (fun v4 h5 => (kN k x0 h5 fun v9 h10 => (kF k 0 v9 h10 fun v12 h13 => (kL k v12 h13 fun v15 h16 => (kI k .quo v4 v15 h16 fun v18 h19 => (kC (stdyS false 1 v12 h h5) (kN k x0 h19 fun v27 h28 => (kF k 2 v27 h28 fun v30 h31 => (kL k v30 h31 fun v33 h34 => (sT291_12 C k x0 v18 v18 v33 h34)))))))))))
theorem sp291 (C : CT) (k : Nat) : ds C k c291 (sQ291 C k) = fun e h => (sK291 C k (e 0) (e 1) h) := by
  refine Eq.trans (sseq_eq (sseq_eq (sp291_1 C k) rfl) rfl) ?_
  kernel_rfl
def SF291 : SF := sf2 sK291
theorem so291 : SOK IP 291 SF291 := sok2 ir291 rfl (by kernel_rfl) (by kernel_rfl) fun C k x0 x1 h => congrFun (congrFun (sp291 C k) _) h
def sQ292 (C : CT) (k : Nat) : QT := QrS k rs292
def sT292_1 (C : CT) (k : Nat) (x8 x9 x13 : S) (h : SH) : Tree := (kB k (fun h1 => sLens x13) (fun v2 h3 => (kI k .rem x9 v2 h3 fun v5 h6 => (kB k (fun h7 => sIa 2 x8 v5 (SH.pc h7)) (fun v8 h9 => (Tree.leaf v8 h9)) h6))) h)
def sT292_2 (C : CT) (k : Nat) (x8 x9 x10 : S) (h : SH) : Tree := (kN k x10 h fun v2 h3 => (kF k 1 v2 h3 fun v5 h6 => (kL k v5 h6 fun v8 h9 => (sT292_1 C k x8 x9 v8 h9))))
def sK292 (C : CT) (k : Nat) (x0 x1 : S) (h : SH) : Tree := (kN k x0 h fun v6 h7 => (kF k 1 v6 h7 fun v9 h10 => (kL k v9 h10 fun v12 h13 => (sT292_2 C k v12 x1 x0 h13))))
theorem sp292 (C : CT) (k : Nat) : ds C k c292 (sQ292 C k) = fun e h => (sK292 C k (e 0) (e 1) h) := by kernel_rfl
def SF292 : SF := sf2 sK292
theorem so292 : SOK IP 292 SF292 := sok2 ir292 rfl (by kernel_rfl) (by kernel_rfl) fun C k x0 x1 h => congrFun (congrFun (sp292 C k) _) h
def sQ293 (C : CT) (k : Nat) : QT := QrS k rs293
def sT293_1 (C : CT) (k : Nat) (x3 x4 x5 x17 x19 : S) (h : SH) : Tree := (kB k (fun h1 => sPick x17 (S.b true) x19 (SH.pc h1)) (fun v2 h3 => (kS v2 (fun h4 => (Tree.leaf (l64 1099511627776) h4)) (fun h5 => (kF k 1 x5 h5 fun v11 h12 => (kL k v11 h12 fun v14 h15 => (kK (C 75 [x3, v14] h15) (fun v17 h18 => (kK (C 128 [x4] h18) (fun v26 h27 => (kI k .geq v17 v26 h27 fun v29 h30 => (kS v29 (fun h31 => (Tree.leaf (l64 1099511627776) h31)) (fun h32 => (Tree.leaf v17 h32)) h30))))))))) h3)) h)
def sT293_2 (C : CT) (k : Nat) (x2 x3 x4 x5 x12 x15 : S) (h : SH) : Tree := (kI k .geq x12 x15 h fun v2 h3 => (kB k (gd v2 false uS (fun h6 => Res.ok x2)) (fun v7 h8 => (kB k (gd v2 false uS (fun h9 => sBin .lss v7 (l64 0) (SH.pc h9))) (fun v10 h11 => (sT293_1 C k x3 x4 x5 v2 v10 h11)) h8)) h3))
def sK293 (C : CT) (k : Nat) (x0 x1 x2 x3 x4 : S) (h : SH) : Tree := (kB k (fun h1 => sBox x0 h1) (fun r3 _ => (kB k (fun h4 => sBox x1 h4) (fun r6 _ => (kA k 2 r3.1 r6.2 fun v12 h13 => (kA k 11 r6.1 h13 fun v15 h16 => (kK (C 299 [v12, v15] h16) (fun v18 h19 => (sT293_2 C k x2 x3 x4 r3.1 x2 v18 h19)))))) r3.2)) h)
theorem sp293 (C : CT) (k : Nat) : ds C k c293 (sQ293 C k) = fun e h => (sK293 C k (e 0) (e 1) (e 2) (e 3) (e 4) h) := by kernel_rfl
def SF293 : SF := sf5 sK293
theorem so293 : SOK IP 293 SF293 := sok5 ir293 rfl (by kernel_rfl) (by kernel_rfl) fun C k x0 x1 x2 x3 x4 h => congrFun (congrFun (sp293 C k) _) h
def sQ299 (C : CT) (k : Nat) : QT := QrS k rs299
def sT299_1 (C : CT) (k : Nat) (x19 : S) (h : SH) : Tree := (kB k (fun h1 => sMin x19 [(l64 14)] (SH.pc h1)) (fun v2 h3 => (Tree.leaf v2 h3)) h)
def sT299_2 (C : CT) (k : Nat) (x2 x11 x15 : S) (h : SH) : Tree := (kB k (fun h1 => sPick x11 (S.b true) x15 (SH.pc h1)) (fun v2 h3 => (kS v2 (fun h4 => (Tree.leaf (l64 0) h4)) (fun h5 => (kF k 0 x2 h5 fun v9 h10 => (kL k v9 h10 fun v12 h13 => (kB k (fun h14 => sMax v12 [(l64 0)] (SH.pc h14)) (fun v15 h16 => (sT299_1 C k v15 h16)) h13)))) h3)) h)
def sT299_3 (C : CT) (k : Nat) (x2 x11 x12 : S) (h : SH) : Tree := (kB k (gd x11 false uS (fun h1 => sLd1 x12 h1)) (fun v2 h3 => (kK (kG x11 false (fun h4 => C 128 [v2] h4) h3) (fun v5 h6 => (kB k (gd x11 false uS (fun h7 => sBin .eql v5 (l64 0) (SH.pc h7))) (fun v8 h9 => (sT299_2 C k x2 x11 v8 h9)) h6)))) h)
def sT299_4 (C : CT) (k : Nat) (x2 x7 x8 : S) (h : SH) : Tree := (kB k (gd x7 false uS (fun h1 => sLd1 x8 h1)) (fun v2 h3 => (kB k (fun h4 => sPick x7 (S.b true) v2 (SH.pc h4)) (fun v5 h6 => (kB k (gd v5 false uS (fun h9 => sFa 1 x2)) (fun v10 h11 => (sT299_3 C k x2 v5 v10 h11)) h6)) h3)) h)
def sK299 (C : CT) (k : Nat) (x0 x1 : S) (h : SH) : Tree := (kB k (fun h1 => sBox x0 h1) (fun r3 _ => (kB k (fun h4 => sBox x1 h4) (fun r6 _ => (kF k 7 r6.1 r6.2 fun v10 h11 => (kL k v10 h11 fun v13 h14 => (kB k (gd v13 false uS (fun h17 => sFa 8 r6.1)) (fun v18 h19 => (sT299_4 C k r3.1 v13 v18 h19)) h14)))) r3.2)) h)
theorem sp299 (C : CT) (k : Nat) : ds C k c299 (sQ299 C k) = fun e h => (sK299 C k (e 0) (e 1) h) := by kernel_rfl
def SF299 : SF := sf2 sK299
theorem so299 : SOK IP 299 SF299 := sok2 ir299 rfl (by kernel_rfl) (by kernel_rfl) fun C k x0 x1 h => congrFun (congrFun (sp299 C k) _) h
def stree : Tr SF := (.n (.n (.n (.n (.n (.n (.n (.n (.n .l (some SF255) .l) none .l) none .l) none (.n .l (some SF95) .l)) (some SF15) (.n (.n (.n .l (some SF143) .l) (some SF79) (.n .l (some SF207) .l)) (some SF47) (.n (.n .l (some SF175) .l) none (.n .l (some SF239) .l)))) (some SF7) (.n (.n (.n (.n .l (some SF135) .l) none (.n .l (some SF199) .l)) none (.n .l (some SF103) .l)) none (.n (.n .l (some SF87) .l) (some SF55) (.n .l none (.n .l (some SF247) .l))))) (some SF3) (.n (.n (.n (.n (.n .l (some SF131) .l) none (.n .l (some SF195) .l)) none (.n (.n (.n .l (some SF291) .l) none .l) (some SF99) (.n .l (some SF227) .l))) (some SF19) (.n (.n (.n .l (some SF147) .l) (some SF83) .l) (some SF51) (.n (.n .l (some SF179) .l) (some SF115) .l))) (some SF11) (.n (.n (.n .l (some SF75) (.n .l (some SF203) .l)) (some SF43) (.n (.n (.n .l (some SF299) .l) none .l) none (.n .l (some SF235) .l))) none (.n (.n .l (some SF91) .l) (some SF59) (.n (.n .l (some SF187) .l) none (.n .l (some SF251) .l)))))) none (.n (.n (.n (.n (.n (.n (.n .l (some SF257) .l) (some SF129) .l) none .l) none (.n .l (some SF97) (.n .l (some SF225) .l))) (some SF17) (.n (.n (.n .l (some SF145) .l) (some SF81) (.n .l (some SF209) .l)) (some SF49) (.n (.n .l (some SF177) .l) none (.n .l (some SF241) .l)))) (some SF9) (.n (.n (.n (.n .l (some SF137) .l) none (.n .l (some SF201) .l)) (some SF41) (.n .l (some SF105) (.n .l (some SF233) .l))) none (.n (.n .l (some SF89) .l) (some SF57) (.n (.n .l (some SF185) .l) none (.n .l (some SF249) .l))))) none (.n (.n (.n (.n (.n .l (some SF133) .l) none (.n .l (some SF197) .l)) none (.n (.n (.n .l (some SF293) .l) none .l) (some SF101) .l)) none (.n (.n .l (some SF85) .l) (some SF53) (.n (.n .l (some SF181) .l) none (.n .l (some SF245) .l)))) (some SF13) (.n (.n (.n (.n .l (some SF141) .l) none (.n .l (some SF205) .l)) (some SF45) (.n (.n .l (some SF173) .l) none (.n .l (some SF237) .l))) none (.n (.n (.n (.n .l (some SF285) .l) none .l) (some SF93) .l) (some SF61) (.n (.n .l (some SF189) .l) none (.n .l (some SF253) .l))))))) none (.n (.n (.n (.n (.n (.n (.n (.n .l (some SF256) .l) (some SF128) .l) none .l) none (.n .l (some SF96) .l)) (some SF16) (.n (.n (.n .l (some SF144) .l) (some SF80) (.n .l (some SF208) .l)) (some SF48) (.n (.n .l (some SF176) .l) none (.n .l (some SF240) .l)))) (some SF8) (.n (.n (.n (.n .l (some SF136) .l) none (.n .l (some SF200) .l)) (some SF40) (.n .l (some SF104) (.n .l (some SF232) .l))) none (.n (.n (.n .l (some SF152) .l) (some SF88) .l) (some SF56) (.n (.n .l (some SF184) .l) none .l)))) none (.n (.n (.n (.n (.n .l (some SF132) .l) (some SF68) (.n .l (some SF196) .l)) none (.n (.n (.n .l (some SF292) .l) none .l) (some SF100) (.n .l (some SF228) .l))) none (.n (.n (.n .l (some SF148) .l) (some SF84) .l) (some SF52) (.n (.n .l (some SF180) .l) none (.n .l (some SF244) .l)))) (some SF12) (.n (.n (.n (.n .l (some SF140) .l) none (.n .l (some SF204) .l)) (some SF44) (.n .l none (.n .l (some SF236) .l))) none (.n (.n .l (some SF92) (.n .l (some SF220) .l)) (some SF60) (.n (.n .l (some SF188) .l) none (.n .l (some SF252) .l)))))) none (.n (.n (.n (.n (.n (.n (.n .l (some SF258) .l) (some SF130) .l) none (.n .l (some SF194) .l)) none (.n (.n (.n .l (some SF290) .l) none .l) (some SF98) (.n .l (some SF226) .l))) (some SF18) (.n (.n (.n .l (some SF146) .l) (some SF82) .l) (some SF50) (.n (.n .l (some SF178) .l) (some SF114) .l))) (some SF10) (.n (.n (.n (.n .l (some SF138) .l) none (.n .l (some SF202) .l)) (some SF42) (.n .l (some SF106) .l)) none (.n (.n (.n .l (some SF154) .l) (some SF90) .l) (some SF58) (.n (.n .l (some SF186) .l) none (.n .l (some SF250) .l))))) (some SF6) (.n (.n (.n (.n (.n .l (some SF134) .l) (some SF70) (.n .l (some SF198) .l)) none (.n .l (some SF102) .l)) none (.n (.n .l (some SF86) .l) (some SF54) (.n .l none (.n .l (some SF246) .l)))) (some SF14) (.n (.n (.n (.n .l (some SF142) .l) none (.n .l (some SF206) .l)) (some SF46) (.n (.n .l (some SF174) .l) none (.n .l (some SF238) .l))) none (.n (.n (.n (.n .l (some SF286) .l) none .l) (some SF94) .l) (some SF62) (.n (.n .l (some SF190) .l) none (.n .l (some SF254) .l))))))))
def SP (f : Nat) : Option SF := stree.get f
theorem sall : stree.All (SOK IP) 1 0 :=
  ⟨nm, ⟨nm, ⟨sm so3, ⟨sm so7, ⟨sm so15, ⟨nm, ⟨nm, ⟨nm, ⟨sm so255, trivial, trivial⟩, trivial⟩, trivial⟩, ⟨sm so95, trivial, trivial⟩⟩, ⟨sm so47, ⟨sm so79, ⟨sm so143, trivial, trivial⟩, ⟨sm so207, trivial, trivial⟩⟩, ⟨nm, ⟨sm so175, trivial, trivial⟩, ⟨sm so239, trivial, trivial⟩⟩⟩⟩, ⟨nm, ⟨nm, ⟨nm, ⟨sm so135, trivial, trivial⟩, ⟨sm so199, trivial, trivial⟩⟩, ⟨sm so103, trivial, trivial⟩⟩, ⟨sm so55, ⟨sm so87, trivial, trivial⟩, ⟨nm, trivial, ⟨sm so247, trivial, trivial⟩⟩⟩⟩⟩, ⟨sm so11, ⟨sm so19, ⟨nm, ⟨nm, ⟨sm so131, trivial, trivial⟩, ⟨sm so195, trivial, trivial⟩⟩, ⟨sm so99, ⟨nm, ⟨sm so291, trivial, trivial⟩, trivial⟩, ⟨sm so227, trivial, trivial⟩⟩⟩, ⟨sm so51, ⟨sm so83, ⟨sm so147, trivial, trivial⟩, trivial⟩, ⟨sm so115, ⟨sm so179, trivial, trivial⟩, trivial⟩⟩⟩, ⟨nm, ⟨sm so43, ⟨sm so75, trivial, ⟨sm so203, trivial, trivial⟩⟩, ⟨nm, ⟨nm, ⟨sm so299, trivial, trivial⟩, trivial⟩, ⟨sm so235, trivial, trivial⟩⟩⟩, ⟨sm so59, ⟨sm so91, trivial, trivial⟩, ⟨nm, ⟨sm so187, trivial, trivial⟩, ⟨sm so251, trivial, trivial⟩⟩⟩⟩⟩⟩, ⟨nm, ⟨sm so9, ⟨sm so17, ⟨nm, ⟨nm, ⟨sm so129, ⟨sm so257, trivial, trivial⟩, trivial⟩, trivial⟩, ⟨sm so97, trivial, ⟨sm so225, trivial, trivial⟩⟩⟩, ⟨sm so49, ⟨sm so81, ⟨sm so145, trivial, trivial⟩, ⟨sm so209, trivial, trivial⟩⟩, ⟨nm, ⟨sm so177, trivial, trivial⟩, ⟨sm so241, trivial, trivial⟩⟩⟩⟩, ⟨nm, ⟨sm so41, ⟨nm, ⟨sm so137, trivial, trivial⟩, ⟨sm so201, trivial, trivial⟩⟩, ⟨sm so105, trivial, ⟨sm so233, trivial, trivial⟩⟩⟩, ⟨sm so57, ⟨sm so89, trivial, trivial⟩, ⟨nm, ⟨sm so185, trivial, trivial⟩, ⟨sm so249, trivial, trivial⟩⟩⟩⟩⟩, ⟨sm so13, ⟨nm, ⟨nm, ⟨nm, ⟨sm so133, trivial, trivial⟩, ⟨sm so197, trivial, trivial⟩⟩, ⟨sm so101, ⟨nm, ⟨sm so293, trivial, trivial⟩, trivial⟩, trivial⟩⟩, ⟨sm so53, ⟨sm so85, trivial, trivial⟩, ⟨nm, ⟨sm so181, trivial, trivial⟩, ⟨sm so245, trivial, trivial⟩⟩⟩⟩, ⟨nm, ⟨sm so45, ⟨nm, ⟨sm so141, trivial, trivial⟩, ⟨sm so205, trivial, trivial⟩⟩, ⟨nm, ⟨sm so173, trivial, trivial⟩, ⟨sm so237, trivial, trivial⟩⟩⟩, ⟨sm so61, ⟨sm so93, ⟨nm, ⟨sm so285, trivial, trivial⟩, trivial⟩, trivial⟩, ⟨nm, ⟨sm so189, trivial, trivial⟩, ⟨sm so253, trivial, trivial⟩⟩⟩⟩⟩⟩⟩, ⟨nm, ⟨nm, ⟨sm so8, ⟨sm so16, ⟨nm, ⟨nm, ⟨sm so128, ⟨sm so256, trivial, trivial⟩, trivial⟩, trivial⟩, ⟨sm so96, trivial, trivial⟩⟩, ⟨sm so48, ⟨sm so80, ⟨sm so144, trivial, trivial⟩, ⟨sm so208, trivial, trivial⟩⟩, ⟨nm, ⟨sm so176, trivial, trivial⟩, ⟨sm so240, trivial, trivial⟩⟩⟩⟩, ⟨nm, ⟨sm so40, ⟨nm, ⟨sm so136, trivial, trivial⟩, ⟨sm so200, trivial, trivial⟩⟩, ⟨sm so104, trivial, ⟨sm so232, trivial, trivial⟩⟩⟩, ⟨sm so56, ⟨sm so88, ⟨sm so152, trivial, trivial⟩, trivial⟩, ⟨nm, ⟨sm so184, trivial, trivial⟩, trivial⟩⟩⟩⟩, ⟨sm so12, ⟨nm, ⟨nm, ⟨sm so68, ⟨sm so132, trivial, trivial⟩, ⟨sm so196, trivial, trivial⟩⟩, ⟨sm so100, ⟨nm, ⟨sm so292, trivial, trivial⟩, trivial⟩, ⟨sm so228, trivial, trivial⟩⟩⟩, ⟨sm so52, ⟨sm so84, ⟨sm so148, trivial, trivial⟩, trivial⟩, ⟨nm, ⟨sm so180, trivial, trivial⟩, ⟨sm so244, trivial, trivial⟩⟩⟩⟩, ⟨nm, ⟨sm so44, ⟨nm, ⟨sm so140, trivial, trivial⟩, ⟨sm so204, trivial, trivial⟩⟩, ⟨nm, trivial, ⟨sm so236, trivial, trivial⟩⟩⟩, ⟨sm so60, ⟨sm so92, trivial, ⟨sm so220, trivial, trivial⟩⟩, ⟨nm, ⟨sm so188, trivial, trivial⟩, ⟨sm so252, trivial, trivial⟩⟩⟩⟩⟩⟩, ⟨sm so6, ⟨sm so10, ⟨sm so18, ⟨nm, ⟨nm, ⟨sm so130, ⟨sm so258, trivial, trivial⟩, trivial⟩, ⟨sm so194, trivial, trivial⟩⟩, ⟨sm so98, ⟨nm, ⟨sm so290, trivial, trivial⟩, trivial⟩, ⟨sm so226, trivial, trivial⟩⟩⟩, ⟨sm so50, ⟨sm so82, ⟨sm so146, trivial, trivial⟩, trivial⟩, ⟨sm so114, ⟨sm so178, trivial, trivial⟩, trivial⟩⟩⟩, ⟨nm, ⟨sm so42, ⟨nm, ⟨sm so138, trivial, trivial⟩, ⟨sm so202, trivial, trivial⟩⟩, ⟨sm so106, trivial, trivial⟩⟩, ⟨sm so58, ⟨sm so90, ⟨sm so154, trivial, trivial⟩, trivial⟩, ⟨nm, ⟨sm so186, trivial, trivial⟩, ⟨sm so250, trivial, trivial⟩⟩⟩⟩⟩, ⟨sm so14, ⟨nm, ⟨nm, ⟨sm so70, ⟨sm so134, trivial, trivial⟩, ⟨sm so198, trivial, trivial⟩⟩, ⟨sm so102, trivial, trivial⟩⟩, ⟨sm so54, ⟨sm so86, trivial, trivial⟩, ⟨nm, trivial, ⟨sm so246, trivial, trivial⟩⟩⟩⟩, ⟨nm, ⟨sm so46, ⟨nm, ⟨sm so142, trivial, trivial⟩, ⟨sm so206, trivial, trivial⟩⟩, ⟨nm, ⟨sm so174, trivial, trivial⟩, ⟨sm so238, trivial, trivial⟩⟩⟩, ⟨sm so62, ⟨sm so94, ⟨nm, ⟨sm so286, trivial, trivial⟩, trivial⟩, trivial⟩, ⟨nm, ⟨sm so190, trivial, trivial⟩, ⟨sm so254, trivial, trivial⟩⟩⟩⟩⟩⟩⟩⟩
theorem sruns (σ : Nat → Int) (k : Nat) : COk σ (srun SP k) (ev IP k) := srun_ev (sok_of_tree sall) k
end
end Go.Proofs.YthackiallbgeaaaGreatDoor.IrClientRefuses
