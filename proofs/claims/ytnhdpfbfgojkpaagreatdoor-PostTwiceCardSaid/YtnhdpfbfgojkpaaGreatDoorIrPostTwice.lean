/-
  The abstract machine's text of the functions that PostTwice reaches, and: it is the loaded program's. Then the functions without temporaries.
-/
import Derived.Test.YtnhdpfbfgojkpaaGreatDoorProg
import Derived.Test.YtnhdpfbfgojkpaaGreatDoorMxT
import Derived.Test.YtnhdpfbfgojkpaaGreatDoorMxU
import Derived.Test.YtnhdpfbfgojkpaaGreatDoorMxV
import Derived.Test.YtnhdpfbfgojkpaaGreatDoorMxX
import Derived.Test.YtnhdpfbfgojkpaaGreatDoorSxG
import Derived.Test.YtnhdpfbfgojkpaaGreatDoorIrPostTwiceP0
namespace Go.Proofs.YtnhdpfbfgojkpaaGreatDoor.IrPostTwice
open Go Mx Sx
noncomputable section
set_option maxRecDepth 100000
set_option linter.unusedVariables false
theorem ip89 : IP 89 = some ir89 := rfl
def sQ89 (C : Nat → List S → SH → Tree) (k : Nat) : X → ES → SH → Tree := QrS k rs89
def sT89_1 (C : CT) (k : Nat) (x4 x7 : S) (h : SH) : Tree := (kB k (fun h1 => sStore 9 x4 x7 h1) (fun r3 _ => (kB k (fun h4 => sLdA 9 x4 h4) (fun v5 h6 => (Tree.leaf v5 h6)) r3.2)) h)
def sK89 (C : CT) (k : Nat) (x0 x1 : S) (h : SH) : Tree := (kB k (fun h1 => sBox x0 h1) (fun r3 _ => (kB k (fun h4 => sBox x1 h4) (fun r6 _ => (kB k (fun h7 => sZero [(.i .i64 0), (.i .i64 0), (.i .u64 0), (.i .u64 0), (.i .u64 0), (.i .u64 0), (.i .i64 0), (.b false), (.b false)] h7) (fun r9 _ => (kB k (fun h10 => sLdA 2 r3.1 h10) (fun v11 h12 => (kB k (fun h13 => sLdA 3 r6.1 h13) (fun v14 h15 => (kB k (fun h16 => sBld [(.i .i64 0), (.i .i64 0), (.i .u64 0), (.i .u64 0), (.i .u64 0), (.i .u64 0), (.i .i64 0), (.b false), (.b false)] [(0, 2, v11), (2, 3, v14)]) (fun v17 h18 => (sT89_1 C k r9.1 v17 h18)) h15)) h12)) r9.2)) r6.2)) r3.2)) h)
theorem sp89 (C : CT) (k : Nat) : ds C k c89 (sQ89 C k) = fun e h => (sK89 C k (e 0) (e 1) h) := by kernel_rfl
def SF89 : SF := fun C k a h => match a with
  | [a0, a1] => sK89 C k a0 a1 h
  | _ => .no
theorem so89 : SOK IP 89 SF89 := ⟨ir89, ip89, by kernel_rfl, fun C k a h => by
  unfold SF89
  split
  · exact .inr ⟨by kernel_rfl, Eq.symm (Eq.trans (congrFun (congrFun (sp89 C k) _) h) rfl)⟩
  · exact .inl rfl⟩
theorem ip90 : IP 90 = some ir90 := rfl
def sQ90 (C : Nat → List S → SH → Tree) (k : Nat) : X → ES → SH → Tree := QrS k rs90
def sQ90_1 (C : CT) (k : Nat) : X → ES → SH → Tree := (sQ90 C k)
def sK90_1 (C : CT) (k : Nat) (x2 x4 : S) (h : SH) : Tree := (kB k (fun h1 => sLdA 9 x2 h1) (fun v2 h3 => (kB k (fun h4 => sStore 9 x4 v2 h4) (fun r6 _ => (kB k (fun h7 => sLdA 9 x4 h7) (fun v8 h9 => (Tree.leaf v8 h9)) r6.2)) h3)) h)
def sJ90_1 (C : CT) (k : Nat) : ES → SH → Tree := fun e h => (sK90_1 C k (e 2) (e 4) h)
theorem sp90_1 (C : CT) (k : Nat) : ds C k c90_1 (sQ90_1 C k) = (sJ90_1 C k) := by kernel_rfl
def sT90_2 (C : CT) (k : Nat) (x2 x4 : S) (h : SH) : Tree := (kB k (fun h1 => sFa 6 x2) (fun v2 h3 => (kB k (fun h4 => sStore 1 v2 (S.i .i64 (.lit 1)) h4) (fun r6 _ => (sK90_1 C k x2 x4 r6.2)) h3)) h)
def sT90_3 (C : CT) (k : Nat) (x2 x4 x44 x47 : S) (h : SH) : Tree := (kK (C 144 [x44, x47] h) (fun v2 h3 => (kB k (fun h4 => sFa 5 x2) (fun v5 h6 => (kB k (fun h7 => sStore 1 v5 v2 h7) (fun r9 _ => (sT90_2 C k x2 x4 r9.2)) h6)) h3)))
def sT90_4 (C : CT) (k : Nat) (x2 x4 x40 : S) (h : SH) : Tree := (kB k (fun h1 => sFa 6 x2) (fun v2 h3 => (kB k (fun h4 => sStore 1 v2 x40 h4) (fun r6 _ => (sK90_1 C k x2 x4 r6.2)) h3)) h)
def sT90_5 (C : CT) (k : Nat) (x1 x2 x4 : S) (h : SH) : Tree := (kB k (fun h3 => sFa 0 x2) (fun v4 h5 => (kB k (fun h6 => sLdA 2 v4 h6) (fun v7 h8 => (kB k (fun h9 => sFa 5 x2) (fun v10 h11 => (kB k (fun h12 => sLd1 v10 h12) (fun v13 h14 => (kK (C 147 [v7, v13] h14) (fun v16 h17 => (kB k (fun h18 => sFa 5 x2) (fun v19 h20 => (kB k (fun h21 => sLd1 v19 h21) (fun v22 h23 => (kB k (fun h24 => sBin .add v22 (S.i .u64 (.lit 1)) (SH.pc h24)) (fun v25 h26 => (kK (C 109 [x1, v16, v25] h26) (fun v28 h29 => (kC (stdyS false 1 v19 h14 h17) (kB k (fun h30 => sFa 6 x2) (fun v31 h32 => (kB k (fun h33 => sStore 1 v31 (S.i .i64 (.lit 7)) h33) (fun r35 _ => (sK90_1 C k x2 x4 r35.2)) h32)) h29))))) h23)) h20)) h17)))) h11)) h8)) h5)) h)
def sT90_6 (C : CT) (k : Nat) (x1 x2 x4 : S) (h : SH) : Tree := (kB k (fun h1 => sFa 6 x2) (fun v2 h3 => (kB k (fun h4 => sLd1 v2 h4) (fun v5 h6 => (kB k (fun h7 => sBin .sub v5 (S.i .i64 (.lit 3)) (SH.pc h7)) (fun v8 h9 => (kB k (fun h14 => sFa 0 x2) (fun v15 h16 => (kB k (fun h17 => sLdA 2 v15 h17) (fun v18 h19 => (kB k (fun h20 => sFa 5 x2) (fun v21 h22 => (kB k (fun h23 => sLd1 v21 h23) (fun v24 h25 => (kK (C 149 [v18, v24, v8] h25) (fun v29 h30 => (kB k (fun h33 => sFa 2 x2) (fun v34 h35 => (kB k (fun h36 => sIaa 1 3 v34 v8 (SH.pc h36)) (fun v37 h38 => (kB k (fun h39 => sLd1 v37 h39) (fun v40 h41 => (kK (C 109 [x1, v29, v40] h41) (fun v43 h44 => (kC (stdyS false 1 v37 h25 h30) (kB k (fun h45 => sFa 6 x2) (fun v46 h47 => (kB k (fun h48 => sLd1 v46 h48) (fun v49 h50 => (kB k (fun h51 => sBin .add v49 (S.i .i64 (.lit 1)) (SH.pc h51)) (fun v52 h53 => (sT90_4 C k x2 x4 v52 h53)) h50)) h47)) h44))))) h38)) h35)) h30)))) h22)) h19)) h16)) h9)) h6)) h3)) h)
def sT90_7 (C : CT) (k : Nat) (x1 x2 x4 : S) (h : SH) : Tree := (kB k (fun h1 => sFa 6 x2) (fun v2 h3 => (kB k (fun h4 => sStore 1 v2 (S.i .i64 (.lit 0)) h4) (fun r6 _ => (kB k (fun h9 => sFa 0 x2) (fun v10 h11 => (kB k (fun h12 => sLdA 2 v10 h12) (fun v13 h14 => (kK (C 145 [v13] h14) (fun v16 h17 => (kB k (fun h18 => sFa 5 x2) (fun v19 h20 => (kB k (fun h21 => sLd1 v19 h21) (fun v22 h23 => (kB k (fun h24 => sFa 5 x2) (fun v25 h26 => (kB k (fun h27 => sLd1 v25 h27) (fun v28 h29 => (kB k (fun h30 => sBin .add v28 (S.i .u64 (.lit 1)) (SH.pc h30)) (fun v31 h32 => (kK (C 148 [x1, v16, v22, v31] h32) (fun v34 h35 => (kC (stdyS false 1 v19 h14 h17) (kC (stdyS false 1 v25 h14 h17) (kS v34 (fun h36 => (kB k (fun h38 => sFa 6 x2) (fun v39 h40 => (kB k (fun h41 => sStore 1 v39 (S.i .i64 (.lit 3)) h41) (fun r43 _ => (sK90_1 C k x2 x4 r43.2)) h40)) h36)) (fun h37 => (sK90_1 C k x2 x4 h37)) h35)))))) h29)) h26)) h23)) h20)) h17)))) h11)) r6.2)) h3)) h)
def sT90_8 (C : CT) (k : Nat) (x1 x2 x4 x22 : S) (h : SH) : Tree := (kB k (fun h1 => sBin .eql x22 (S.i .i64 (.lit 6)) (SH.pc h1)) (fun v2 h3 => (kS v2 (fun h6 => (sT90_5 C k x1 x2 x4 h6)) (fun h7 => (sT90_6 C k x1 x2 x4 h7)) h3)) h)
def sT90_9 (C : CT) (k : Nat) (x1 x2 x4 : S) (h : SH) : Tree := (kB k (fun h1 => sLdA 9 x2 h1) (fun v2 h3 => (kB k (fun h6 => sFa 0 x2) (fun v7 h8 => (kB k (fun h9 => sLdA 2 v7 h9) (fun v10 h11 => (kB k (fun h12 => sFa 5 x2) (fun v13 h14 => (kB k (fun h15 => sLd1 v13 h15) (fun v16 h17 => (kK (C 147 [v10, v16] h17) (fun v19 h20 => (kK (C 144 [x1, v19] h20) (fun v22 h23 => (kK (C 146 [v2, v22] h23) (fun v25 h26 => (kB k (fun h27 => sStore 9 x2 v25 h27) (fun r29 _ => (kC (stdyS true 9 x2 h17 h20) (kC (stdyS true 9 x2 h20 h23) (sK90_1 C k x2 x4 r29.2)))) h26)))))))) h14)) h11)) h8)) h3)) h)
def sT90_10 (C : CT) (k : Nat) (x1 x2 x4 x22 : S) (h : SH) : Tree := (kB k (fun h1 => sBin .eql x22 (S.i .i64 (.lit 2)) (SH.pc h1)) (fun v2 h3 => (kS v2 (fun h6 => (sT90_7 C k x1 x2 x4 h6)) (fun h7 => (sT90_8 C k x1 x2 x4 x22 h7)) h3)) h)
def sT90_11 (C : CT) (k : Nat) (x1 x2 x4 : S) (h : SH) : Tree := (kB k (fun h3 => sFa 0 x2) (fun v4 h5 => (kB k (fun h6 => sLdA 2 v4 h6) (fun v7 h8 => (kK (C 145 [v7] h8) (fun v10 h11 => (sT90_3 C k x2 x4 x1 v10 h11)))) h5)) h)
def sT90_12 (C : CT) (k : Nat) (x1 x2 x4 x22 : S) (h : SH) : Tree := (kB k (fun h1 => sBin .eql x22 (S.i .i64 (.lit 1)) (SH.pc h1)) (fun v2 h3 => (kS v2 (fun h6 => (sT90_9 C k x1 x2 x4 h6)) (fun h7 => (sT90_10 C k x1 x2 x4 x22 h7)) h3)) h)
def sT90_13 (C : CT) (k : Nat) (x2 x4 : S) (h : SH) : Tree := (kB k (fun h1 => sFa 8 x2) (fun v2 h3 => (kB k (fun h4 => sStore 1 v2 (S.b true) h4) (fun r6 _ => (kB k (fun h7 => sLdA 9 x2 h7) (fun v8 h9 => (kB k (fun h10 => sStore 9 x4 v8 h10) (fun r12 _ => (kB k (fun h13 => sLdA 9 x4 h13) (fun v14 h15 => (Tree.leaf v14 h15)) r12.2)) h9)) r6.2)) h3)) h)
def sT90_14 (C : CT) (k : Nat) (x1 x2 x4 x17 : S) (h : SH) : Tree := (kB k (fun h1 => sUn .not x17 (SH.pc h1)) (fun v2 h3 => (kS v2 (fun h4 => (sT90_13 C k x2 x4 h4)) (fun h5 => (kB k (fun h6 => sFa 6 x2) (fun v7 h8 => (kB k (fun h9 => sLd1 v7 h9) (fun v10 h11 => (kB k (fun h12 => sBin .eql v10 (S.i .i64 (.lit 0)) (SH.pc h12)) (fun v13 h14 => (kS v13 (fun h17 => (sT90_11 C k x1 x2 x4 h17)) (fun h18 => (sT90_12 C k x1 x2 x4 v10 h18)) h14)) h11)) h8)) h5)) h3)) h)
def sT90_15 (C : CT) (k : Nat) (x1 x2 x4 x8 x11 : S) (h : SH) : Tree := (kB k (fun h1 => sExt x8 1) (fun v2 h3 => (kS v2 (fun h10 => (kB k (fun h12 => sLdA 9 x2 h12) (fun v13 h14 => (kB k (fun h15 => sStore 9 x4 v13 h15) (fun r17 _ => (kB k (fun h18 => sLdA 9 x4 h18) (fun v19 h20 => (Tree.leaf v19 h20)) r17.2)) h14)) h10)) (fun h11 => (kB k (fun h21 => sFa 0 x2) (fun v22 h23 => (kB k (fun h24 => sLdA 2 v22 h24) (fun v25 h26 => (kK (C 58 [v25] h26) (fun v28 h29 => (sT90_14 C k x1 x2 x4 v28 h29)))) h23)) h11)) h3)) h)
def sK90 (C : CT) (k : Nat) (x0 x1 : S) (h : SH) : Tree := (kB k (fun h1 => sBox x0 h1) (fun r3 _ => (kB k (fun h4 => sZero [(.i .i64 0), (.i .i64 0), (.i .u64 0), (.i .u64 0), (.i .u64 0), (.i .u64 0), (.i .i64 0), (.b false), (.b false)] h4) (fun r6 _ => (kB k (fun h7 => sLdA 9 r3.1 h7) (fun v8 h9 => (kK (C 91 [v8] h9) (fun v11 h12 => (kB k (fun h15 => sExt v11 0) (fun v16 h17 => (sT90_15 C k x1 r3.1 r6.1 v11 v16 h17)) h12)))) r6.2)) r3.2)) h)
theorem sp90 (C : CT) (k : Nat) : ds C k c90 (sQ90 C k) = fun e h => (sK90 C k (e 0) (e 1) h) := by
  refine Eq.trans (sseq_eq (sseq_eq (sseq_eq (sseq_eq (sp90_1 C k) rfl) rfl) rfl) rfl) ?_
  kernel_rfl
def SF90 : SF := fun C k a h => match a with
  | [a0, a1] => sK90 C k a0 a1 h
  | _ => .no
theorem so90 : SOK IP 90 SF90 := ⟨ir90, ip90, by kernel_rfl, fun C k a h => by
  unfold SF90
  split
  · exact .inr ⟨by kernel_rfl, Eq.symm (Eq.trans (congrFun (congrFun (sp90 C k) _) h) rfl)⟩
  · exact .inl rfl⟩
theorem ip91 : IP 91 = some ir91 := rfl
def sQ91 (C : Nat → List S → SH → Tree) (k : Nat) : X → ES → SH → Tree := QrS k rs91
def sT91_1 (C : CT) (k : Nat) (x1 : S) (h : SH) : Tree := (kB k (fun h1 => sFa 6 x1) (fun v2 h3 => (kB k (fun h4 => sLd1 v2 h4) (fun v5 h6 => (kB k (fun h7 => sBin .eql v5 (S.i .i64 (.lit 7)) (SH.pc h7)) (fun v8 h9 => (kS v8 (fun h12 => (Tree.leaf (S.tup [(S.i .i64 (.lit 0)), (S.b true)]) h12)) (fun h13 => (Tree.leaf (S.tup [(S.i .i64 (.lit 0)), (S.b false)]) h13)) h9)) h6)) h3)) h)
def sK91 (C : CT) (k : Nat) (x0 : S) (h : SH) : Tree := (kB k (fun h1 => sBox x0 h1) (fun r3 _ => (kB k (fun h8 => sFa 8 r3.1) (fun v9 h10 => (kB k (fun h11 => sLd1 v9 h11) (fun v12 h13 => (kS v12 (fun h16 => (Tree.leaf (S.tup [(S.i .i64 (.lit 3)), (S.b true)]) h16)) (fun h17 => (sT91_1 C k r3.1 h17)) h13)) h10)) r3.2)) h)
theorem sp91 (C : CT) (k : Nat) : ds C k c91 (sQ91 C k) = fun e h => (sK91 C k (e 0) h) := by kernel_rfl
def SF91 : SF := fun C k a h => match a with
  | [a0] => sK91 C k a0 h
  | _ => .no
theorem so91 : SOK IP 91 SF91 := ⟨ir91, ip91, by kernel_rfl, fun C k a h => by
  unfold SF91
  split
  · exact .inr ⟨by kernel_rfl, Eq.symm (Eq.trans (congrFun (congrFun (sp91 C k) _) h) rfl)⟩
  · exact .inl rfl⟩
theorem ip92 : IP 92 = some ir92 := rfl
def sQ92 (C : Nat → List S → SH → Tree) (k : Nat) : X → ES → SH → Tree := QrS k rs92
def sT92_1 (C : CT) (k : Nat) (x0 : S) (h : SH) : Tree := (kB k (fun h3 => sNilc x0) (fun v4 h5 => (kB k (fun h6 => sFa 1 v4) (fun v7 h8 => (kB k (fun h9 => sStore 1 v7 S.nsl h9) (fun r11 _ => (Tree.leaf (S.tup []) r11.2)) h8)) h5)) h)
def sK92 (C : CT) (k : Nat) (x0 : S) (h : SH) : Tree := (kB k (fun h3 => sEqz true .p x0 (S.p none) (SH.pc h3)) (fun v4 h5 => (kS v4 (fun h6 => (sT92_1 C k x0 h6)) (fun h7 => (Tree.leaf (S.tup []) h7)) h5)) h)
theorem sp92 (C : CT) (k : Nat) : ds C k c92 (sQ92 C k) = fun e h => (sK92 C k (e 0) h) := by kernel_rfl
def SF92 : SF := fun C k a h => match a with
  | [a0] => sK92 C k a0 h
  | _ => .no
theorem so92 : SOK IP 92 SF92 := ⟨ir92, ip92, by kernel_rfl, fun C k a h => by
  unfold SF92
  split
  · exact .inr ⟨by kernel_rfl, Eq.symm (Eq.trans (congrFun (congrFun (sp92 C k) _) h) rfl)⟩
  · exact .inl rfl⟩
theorem ip93 : IP 93 = some ir93 := rfl
def sQ93 (C : Nat → List S → SH → Tree) (k : Nat) : X → ES → SH → Tree := QrS k rs93
def sQ93_1 (C : CT) (k : Nat) : X → ES → SH → Tree := (sQ93 C k)
def sT93_2 (C : CT) (k : Nat) (x0 x1 : S) (h : SH) : Tree := (kK (C 151 [x0, x1] h) (fun v6 h7 => (Tree.leaf (S.tup []) h7)))
def sT93_3 (C : CT) (k : Nat) (x0 x1 : S) (h : SH) : Tree := (kK (C 152 [x0, x1] h) (fun v6 h7 => (Tree.leaf (S.tup []) h7)))
def sT93_4 (C : CT) (k : Nat) (x0 x1 x20 : S) (h : SH) : Tree := (kB k (fun h1 => sBin .eql x20 (S.i .i64 (.lit 1)) (SH.pc h1)) (fun v2 h3 => (kS v2 (fun h4 => (sT93_2 C k x0 x1 h4)) (fun h5 => (sT93_3 C k x0 x1 h5)) h3)) h)
def sK93_1 (C : CT) (k : Nat) (x0 x1 : S) (h : SH) : Tree := (kB k (fun h3 => sNilc x0) (fun v4 h5 => (kB k (fun h6 => sFa 9 v4) (fun v7 h8 => (kB k (fun h9 => sLd1 v7 h9) (fun v10 h11 => (sT93_4 C k x0 x1 v10 h11)) h8)) h5)) h)
def sJ93_1 (C : CT) (k : Nat) : ES → SH → Tree := fun e h => (sK93_1 C k (e 0) (e 1) h)
theorem sp93_1 (C : CT) (k : Nat) : ds C k c93_1 (sQ93_1 C k) = (sJ93_1 C k) := by kernel_rfl
def sT93_5 (C : CT) (k : Nat) (x0 x1 x13 : S) (h : SH) : Tree := (kB k (fun h1 => sBin .eql x13 (S.i .i64 (.lit 0)) (SH.pc h1)) (fun v2 h3 => (kS v2 (fun h4 => (kK (C 150 [x0] h4) (fun v9 h10 => (sK93_1 C k x0 x1 h10)))) (fun h5 => (sK93_1 C k x0 x1 h5)) h3)) h)
def sT93_6 (C : CT) (k : Nat) (x0 x1 x6 x8 : S) (h : SH) : Tree := (kB k (fun h1 => sPick x6 (S.b true) x8 (SH.pc h1)) (fun v2 h3 => (kS v2 (fun h4 => (Tree.leaf (S.tup []) h4)) (fun h5 => (kB k (fun h8 => sNilc x0) (fun v9 h10 => (kB k (fun h11 => sFa 9 v9) (fun v12 h13 => (kB k (fun h14 => sLd1 v12 h14) (fun v15 h16 => (sT93_5 C k x0 x1 v15 h16)) h13)) h10)) h5)) h3)) h)
def sK93 (C : CT) (k : Nat) (x0 x1 : S) (h : SH) : Tree := (kB k (fun h3 => sEqz false .p x0 (S.p none) (SH.pc h3)) (fun v4 h5 => (kB k (gd v4 false uS (fun h8 => Res.ok x1)) (fun v9 h10 => (kB k (gd v4 false uS (fun h11 => sEqz false .p v9 (S.p none) (SH.pc h11))) (fun v12 h13 => (sT93_6 C k x0 x1 v4 v12 h13)) h10)) h5)) h)
theorem sp93 (C : CT) (k : Nat) : ds C k c93 (sQ93 C k) = fun e h => (sK93 C k (e 0) (e 1) h) := by
  refine Eq.trans (sseq_eq (sseq_eq (sp93_1 C k) rfl) rfl) ?_
  kernel_rfl
def SF93 : SF := fun C k a h => match a with
  | [a0, a1] => sK93 C k a0 a1 h
  | _ => .no
theorem so93 : SOK IP 93 SF93 := ⟨ir93, ip93, by kernel_rfl, fun C k a h => by
  unfold SF93
  split
  · exact .inr ⟨by kernel_rfl, Eq.symm (Eq.trans (congrFun (congrFun (sp93 C k) _) h) rfl)⟩
  · exact .inl rfl⟩
theorem ip94 : IP 94 = some ir94 := rfl
def sQ94 (C : Nat → List S → SH → Tree) (k : Nat) : X → ES → SH → Tree := QrS k rs94
def sT94_1 (C : CT) (k : Nat) (x8 : S) (h : SH) : Tree := (kK (C 153 [x8] h) (fun v2 h3 => (Tree.leaf v2 h3)))
def sK94 (C : CT) (k : Nat) (x0 : S) (h : SH) : Tree := (kB k (fun h5 => sEqz false .p x0 (S.p none) (SH.pc h5)) (fun v6 h7 => (kS v6 (fun h8 => (Tree.leaf S.nsl h8)) (fun h9 => (kB k (fun h14 => sNilc x0) (fun v15 h16 => (kB k (fun h17 => sFa 1 v15) (fun v18 h19 => (kB k (fun h20 => sLd1 v18 h20) (fun v21 h22 => (sT94_1 C k v21 h22)) h19)) h16)) h9)) h7)) h)
theorem sp94 (C : CT) (k : Nat) : ds C k c94 (sQ94 C k) = fun e h => (sK94 C k (e 0) h) := by kernel_rfl
def SF94 : SF := fun C k a h => match a with
  | [a0] => sK94 C k a0 h
  | _ => .no
theorem so94 : SOK IP 94 SF94 := ⟨ir94, ip94, by kernel_rfl, fun C k a h => by
  unfold SF94
  split
  · exact .inr ⟨by kernel_rfl, Eq.symm (Eq.trans (congrFun (congrFun (sp94 C k) _) h) rfl)⟩
  · exact .inl rfl⟩
theorem ip95 : IP 95 = some ir95 := rfl
def sQ95 (C : Nat → List S → SH → Tree) (k : Nat) : X → ES → SH → Tree := QrS k rs95
def sT95_1 (C : CT) (k : Nat) (x5 x7 : S) (h : SH) : Tree := (kB k (fun h1 => sPick x5 x7 (S.b false) (SH.pc h1)) (fun v2 h3 => (Tree.leaf v2 h3)) h)
def sK95 (C : CT) (k : Nat) (x0 : S) (h : SH) : Tree := (kB k (fun h5 => sBin .geq x0 (S.i .i64 (.lit 0)) (SH.pc h5)) (fun v6 h7 => (kB k (gd v6 true uS (fun h10 => Res.ok x0)) (fun v11 h12 => (kB k (gd v6 true uS (fun h13 => sBin .lss v11 (S.i .i64 (.lit 4)) (SH.pc h13))) (fun v14 h15 => (sT95_1 C k v6 v14 h15)) h12)) h7)) h)
theorem sp95 (C : CT) (k : Nat) : ds C k c95 (sQ95 C k) = fun e h => (sK95 C k (e 0) h) := by kernel_rfl
def SF95 : SF := fun C k a h => match a with
  | [a0] => sK95 C k a0 h
  | _ => .no
theorem so95 : SOK IP 95 SF95 := ⟨ir95, ip95, by kernel_rfl, fun C k a h => by
  unfold SF95
  split
  · exact .inr ⟨by kernel_rfl, Eq.symm (Eq.trans (congrFun (congrFun (sp95 C k) _) h) rfl)⟩
  · exact .inl rfl⟩
theorem ip96 : IP 96 = some ir96 := rfl
def sQ96 (C : Nat → List S → SH → Tree) (k : Nat) : X → ES → SH → Tree := QrS k rs96
def sT96_1 (C : CT) (k : Nat) (x2 x17 : S) (h : SH) : Tree := (kB k (fun h1 => sStore 11 x2 x17 h1) (fun r3 _ => (kB k (fun h6 => sLdA 11 x2 h6) (fun v7 h8 => (Tree.leaf (S.tup [v7, (S.b true)]) h8)) r3.2)) h)
def sT96_2 (C : CT) (k : Nat) (x2 : S) (h : SH) : Tree := (kB k (fun h1 => sBld [(.i .i64 0), (.i .i64 0), (.i .i64 0), (.i .i64 0), (.i .i64 0), (.i .u32 0), (.i .i64 0), (.b false), (.b false), (.i .i64 0), (.i .u32 0)] []) (fun v2 h3 => (kB k (fun h4 => sStore 11 x2 v2 h4) (fun r6 _ => (kB k (fun h9 => sLdA 11 x2 h9) (fun v10 h11 => (Tree.leaf (S.tup [v10, (S.b false)]) h11)) r6.2)) h3)) h)
def sT96_3 (C : CT) (k : Nat) (x0 x2 x6 x11 : S) (h : SH) : Tree := (kB k (fun h1 => sPick x6 (S.b true) x11 (SH.pc h1)) (fun v2 h3 => (kS v2 (fun h4 => (sT96_2 C k x2 h4)) (fun h5 => (kB k (fun h8 => sNilc x0) (fun v9 h10 => (kB k (fun h11 => sFa 3 v9) (fun v12 h13 => (kB k (fun h14 => sLdA 11 v12 h14) (fun v15 h16 => (sT96_1 C k x2 v15 h16)) h13)) h10)) h5)) h3)) h)
def sT96_4 (C : CT) (k : Nat) (x0 x2 x6 x8 : S) (h : SH) : Tree := (kB k (gd x6 false uS (fun h1 => sFa 2 x8)) (fun v2 h3 => (kB k (gd x6 false uS (fun h4 => sLd1 v2 h4)) (fun v5 h6 => (kB k (gd x6 false uS (fun h7 => sUn .not v5 (SH.pc h7))) (fun v8 h9 => (sT96_3 C k x0 x2 x6 v8 h9)) h6)) h3)) h)
def sK96 (C : CT) (k : Nat) (x0 : S) (h : SH) : Tree := (kB k (fun h1 => sZero [(.i .i64 0), (.i .i64 0), (.i .i64 0), (.i .i64 0), (.i .i64 0), (.i .u32 0), (.i .i64 0), (.b false), (.b false), (.i .i64 0), (.i .u32 0)] h1) (fun r3 _ => (kB k (fun h8 => sEqz false .p x0 (S.p none) (SH.pc h8)) (fun v9 h10 => (kB k (gd v9 false uS (fun h13 => Res.ok x0)) (fun v14 h15 => (kB k (gd v9 false uS (fun h16 => sNilc v14)) (fun v17 h18 => (sT96_4 C k x0 r3.1 v9 v17 h18)) h15)) h10)) r3.2)) h)
theorem sp96 (C : CT) (k : Nat) : ds C k c96 (sQ96 C k) = fun e h => (sK96 C k (e 0) h) := by kernel_rfl
def SF96 : SF := fun C k a h => match a with
  | [a0] => sK96 C k a0 h
  | _ => .no
theorem so96 : SOK IP 96 SF96 := ⟨ir96, ip96, by kernel_rfl, fun C k a h => by
  unfold SF96
  split
  · exact .inr ⟨by kernel_rfl, Eq.symm (Eq.trans (congrFun (congrFun (sp96 C k) _) h) rfl)⟩
  · exact .inl rfl⟩
theorem ip97 : IP 97 = some ir97 := rfl
def sQ97 (C : Nat → List S → SH → Tree) (k : Nat) : X → ES → SH → Tree := QrS k rs97
def sT97_1 (C : CT) (k : Nat) (x42 x46 : S) (h : SH) : Tree := (kB k (fun h1 => sNilc x42) (fun v2 h3 => (kB k (fun h4 => sFa 14 v2) (fun v5 h6 => (kB k (fun h7 => sStore 2 v5 x46 h7) (fun r9 _ => (Tree.leaf (S.b true) r9.2)) h6)) h3)) h)
def sT97_2 (C : CT) (k : Nat) (x0 x1 x13 x19 : S) (h : SH) : Tree := (kB k (fun h1 => sPick x13 (S.b true) x19 (SH.pc h1)) (fun v2 h3 => (kS v2 (fun h4 => (Tree.leaf (S.b false) h4)) (fun h5 => (kB k (fun h14 => sNilc x0) (fun v15 h16 => (kB k (fun h17 => sFa 1 v15) (fun v18 h19 => (kB k (fun h20 => sLd1 v18 h20) (fun v21 h22 => (kB k (fun h23 => sIa 11 v21 (S.i .i64 (.lit 0)) (SH.pc h23)) (fun v24 h25 => (kB k (fun h26 => sLdA 11 v24 h26) (fun v27 h28 => (kB k (fun h31 => sNilc x0) (fun v32 h33 => (kB k (fun h34 => sFa 1 v32) (fun v35 h36 => (kB k (fun h37 => sLd1 v35 h37) (fun v38 h39 => (kB k (fun h40 => sSls 11 v38 (some (S.i .i64 (.lit 1))) none none (SH.pc h40)) (fun v41 h42 => (kK (C 101 [v41] h42) (fun v44 h45 => (kB k (fun h46 => sNilc x0) (fun v47 h48 => (kB k (fun h49 => sFa 3 v47) (fun v50 h51 => (kB k (fun h52 => sStore 11 v50 v27 h52) (fun r54 _ => (kB k (fun h55 => sNilc x0) (fun v56 h57 => (kB k (fun h58 => sFa 1 v56) (fun v59 h60 => (kB k (fun h61 => sStore 1 v59 v44 h61) (fun r63 _ => (kC (stdyS false 1 v18 h42 h45) (kC (stdyS true 11 v24 h42 h45) (kB k (fun h66 => sNilc x0) (fun v67 h68 => (kB k (fun h69 => sFa 2 v67) (fun v70 h71 => (kB k (fun h72 => sStore 1 v70 (S.b true) h72) (fun r74 _ => (kB k (fun h77 => sBld [(.i .i64 0), (.i .i64 0)] []) (fun v78 h79 => (kK (C 155 [x1] h79) (fun v83 h84 => (kK (C 154 [v78, v83] h84) (fun v86 h87 => (sT97_1 C k x0 v86 h87)))))) r74.2)) h71)) h68)) r63.2)))) h60)) h57)) r54.2)) h51)) h48)) h45)))) h39)) h36)) h33)) h28)) h25)) h22)) h19)) h16)) h5)) h3)) h)
def sT97_3 (C : CT) (k : Nat) (x0 x1 x13 x16 : S) (h : SH) : Tree := (kB k (gd x13 false uS (fun h1 => sLd1 x16 h1)) (fun v2 h3 => (kB k (gd x13 false uS (fun h4 => sLens v2)) (fun v5 h6 => (kB k (gd x13 false uS (fun h7 => sBin .eql v5 (S.i .i64 (.lit 0)) (SH.pc h7))) (fun v8 h9 => (sT97_2 C k x0 x1 x13 v8 h9)) h6)) h3)) h)
def sT97_4 (C : CT) (k : Nat) (x0 x1 x13 : S) (h : SH) : Tree := (kB k (gd x13 false uS (fun h1 => Res.ok x0)) (fun v2 h3 => (kB k (gd x13 false uS (fun h4 => sNilc v2)) (fun v5 h6 => (kB k (gd x13 false uS (fun h7 => sFa 1 v5)) (fun v8 h9 => (sT97_3 C k x0 x1 x13 v8 h9)) h6)) h3)) h)
def sT97_5 (C : CT) (k : Nat) (x0 x1 x7 x9 : S) (h : SH) : Tree := (kB k (gd x7 false uS (fun h1 => sFa 2 x9)) (fun v2 h3 => (kB k (gd x7 false uS (fun h4 => sLd1 v2 h4)) (fun v5 h6 => (kB k (fun h7 => sPick x7 (S.b true) v5 (SH.pc h7)) (fun v8 h9 => (sT97_4 C k x0 x1 v8 h9)) h6)) h3)) h)
def sK97 (C : CT) (k : Nat) (x0 x1 : S) (h : SH) : Tree := (kB k (fun h5 => sEqz false .p x0 (S.p none) (SH.pc h5)) (fun v6 h7 => (kB k (gd v6 false uS (fun h10 => Res.ok x0)) (fun v11 h12 => (kB k (gd v6 false uS (fun h13 => sNilc v11)) (fun v14 h15 => (sT97_5 C k x0 x1 v6 v14 h15)) h12)) h7)) h)
theorem sp97 (C : CT) (k : Nat) : ds C k c97 (sQ97 C k) = fun e h => (sK97 C k (e 0) (e 1) h) := by kernel_rfl
def SF97 : SF := fun C k a h => match a with
  | [a0, a1] => sK97 C k a0 a1 h
  | _ => .no
theorem so97 : SOK IP 97 SF97 := ⟨ir97, ip97, by kernel_rfl, fun C k a h => by
  unfold SF97
  split
  · exact .inr ⟨by kernel_rfl, Eq.symm (Eq.trans (congrFun (congrFun (sp97 C k) _) h) rfl)⟩
  · exact .inl rfl⟩
theorem ip98 : IP 98 = some ir98 := rfl
def sQ98 (C : Nat → List S → SH → Tree) (k : Nat) : X → ES → SH → Tree := QrS k rs98
def sQ98_1 (C : CT) (k : Nat) : X → ES → SH → Tree := (sQ98 C k)
def sK98_1 (C : CT) (k : Nat) (x2 x6 : S) (h : SH) : Tree := (kB k (fun h1 => sBld [(.i .i64 0), (.i .i64 0), (.i .i64 0), (.i .i64 0), (.i .i64 0), (.i .u32 0), (.i .i64 0), (.b false), (.b false), (.i .i64 0), (.i .u32 0)] []) (fun v2 h3 => (kB k (fun h6 => sStore 11 x6 v2 h6) (fun r8 _ => (kB k (fun h13 => sLdA 11 x6 h13) (fun v14 h15 => (Tree.leaf (S.tup [v14, x2, (S.b false)]) h15)) r8.2)) h3)) h)
def sJ98_1 (C : CT) (k : Nat) : ES → SH → Tree := fun e h => (sK98_1 C k (e 2) (e 6) h)
theorem sp98_1 (C : CT) (k : Nat) : ds C k c98_1 (sQ98_1 C k) = (sJ98_1 C k) := by kernel_rfl
def sT98_2 (C : CT) (k : Nat) (x2 x6 x48 x52 : S) (h : SH) : Tree := (kK (C 157 [x52] h) (fun v2 h3 => (kK (C 156 [x48, (S.i .i64 (.lit 4)), v2, (S.i .u32 (.lit 0))] h3) (fun v5 h6 => (kB k (fun h9 => sStore 11 x6 v5 h9) (fun r11 _ => (kB k (fun h16 => sLdA 11 x6 h16) (fun v17 h18 => (Tree.leaf (S.tup [v17, x2, (S.b true)]) h18)) r11.2)) h6)))))
def sT98_3 (C : CT) (k : Nat) (x0 x2 x6 : S) (h : SH) : Tree := (kK (C 156 [x0, (S.i .i64 (.lit 7)), (S.i .i64 (.lit 0)), (S.i .u32 (.lit 1))] h) (fun v4 h5 => (kB k (fun h8 => sStore 11 x6 v4 h8) (fun r10 _ => (kB k (fun h15 => sLdA 11 x6 h15) (fun v16 h17 => (Tree.leaf (S.tup [v16, x2, (S.b true)]) h17)) r10.2)) h5)))
def sT98_4 (C : CT) (k : Nat) (x0 x2 x6 x59 : S) (h : SH) : Tree := (kB k (fun h1 => sExt x59 0) (fun v2 h3 => (kB k (fun h4 => sExt x59 1) (fun v5 h6 => (kB k (fun h7 => sExt x59 2) (fun v8 h9 => (kB k (fun h18 => sNilc x0) (fun v19 h20 => (kB k (fun h21 => sFa 2 v19) (fun v22 h23 => (kB k (fun h24 => sStore 1 v22 (S.b false) h24) (fun r26 _ => (kB k (fun h29 => sUn .not v8 (SH.pc h29)) (fun v30 h31 => (kS v30 (fun h32 => (sT98_3 C k x0 x2 x6 h32)) (fun h33 => (kK (C 156 [x0, (S.i .i64 (.lit 2)), (S.i .i64 (.lit 0)), v2] h33) (fun v39 h40 => (kB k (fun h43 => sStore 11 x6 v39 h43) (fun r45 _ => (kB k (fun h50 => sLdA 11 x6 h50) (fun v51 h52 => (Tree.leaf (S.tup [v51, v5, (S.b true)]) h52)) r45.2)) h40)))) h31)) r26.2)) h23)) h20)) h9)) h6)) h3)) h)
def sT98_5 (C : CT) (k : Nat) (x0 x2 x6 x64 x67 : S) (h : SH) : Tree := (kB k (fun h1 => sFa 10 x67) (fun v2 h3 => (kB k (fun h4 => sLd1 v2 h4) (fun v5 h6 => (kK (C 158 [x64, v5, x2] h6) (fun v10 h11 => (sT98_4 C k x0 x2 x6 v10 h11)))) h3)) h)
def sT98_6 (C : CT) (k : Nat) (x0 x2 x6 x63 : S) (h : SH) : Tree := (kB k (fun h1 => sLd1 x63 h1) (fun v2 h3 => (kB k (fun h6 => sNilc x0) (fun v7 h8 => (kB k (fun h9 => sFa 3 v7) (fun v10 h11 => (sT98_5 C k x0 x2 x6 v2 v10 h11)) h8)) h3)) h)
def sT98_7 (C : CT) (k : Nat) (x2 x6 x119 x120 x132 : S) (h : SH) : Tree := (kK (C 156 [x119, (S.i .i64 (.lit 3)), x120, x132] h) (fun v2 h3 => (kB k (fun h6 => sStore 11 x6 v2 h6) (fun r8 _ => (kB k (fun h13 => sLdA 11 x6 h13) (fun v14 h15 => (Tree.leaf (S.tup [v14, x2, (S.b true)]) h15)) r8.2)) h3)))
def sT98_8 (C : CT) (k : Nat) (x2 x6 x13 x119 x120 x125 x128 : S) (h : SH) : Tree := (kB k (fun h1 => sFa 10 x128) (fun v2 h3 => (kB k (fun h4 => sLd1 v2 h4) (fun v5 h6 => (kK (C 160 [x125, v5, x13] h6) (fun v10 h11 => (sT98_7 C k x2 x6 x119 x120 v10 h11)))) h3)) h)
def sT98_9 (C : CT) (k : Nat) (x0 x2 x6 x13 x119 x120 x124 : S) (h : SH) : Tree := (kB k (fun h1 => sLd1 x124 h1) (fun v2 h3 => (kB k (fun h6 => sNilc x0) (fun v7 h8 => (kB k (fun h9 => sFa 3 v7) (fun v10 h11 => (sT98_8 C k x2 x6 x13 x119 x120 v2 v10 h11)) h8)) h3)) h)
def sT98_10 (C : CT) (k : Nat) (x0 x2 x6 x13 : S) (h : SH) : Tree := (kB k (fun h7 => sNilc x0) (fun v8 h9 => (kB k (fun h10 => sFa 3 v8) (fun v11 h12 => (kB k (fun h13 => sFa 9 v11) (fun v14 h15 => (sT98_9 C k x0 x2 x6 x13 x0 x13 v14 h15)) h12)) h9)) h)
def sT98_11 (C : CT) (k : Nat) (x0 x2 x6 x13 x14 x115 x117 : S) (h : SH) : Tree := (kB k (fun h1 => sStore 2 x117 x115 h1) (fun r3 _ => (kS x14 (fun h6 => (sT98_10 C k x0 x2 x6 x13 h6)) (fun h7 => (sK98_1 C k x2 x6 h7)) r3.2)) h)
def sT98_12 (C : CT) (k : Nat) (x0 x2 x6 x105 x111 x112 : S) (h : SH) : Tree := (kB k (fun h1 => sExt x105 2) (fun v2 h3 => (kB k (fun h4 => sZero [(.i .i64 0), (.i .i64 0)] h4) (fun r6 _ => (kB k (fun h7 => sStore 2 r6.1 x111 h7) (fun r9 _ => (kB k (fun h16 => sLdA 2 r6.1 h16) (fun v17 h18 => (kB k (fun h19 => sNilc x0) (fun v20 h21 => (kB k (fun h22 => sFa 14 v20) (fun v23 h24 => (sT98_11 C k x0 x2 x6 x112 v2 v17 v23 h24)) h21)) h18)) r9.2)) r6.2)) h3)) h)
def sT98_13 (C : CT) (k : Nat) (x0 x2 x6 x109 : S) (h : SH) : Tree := (kK (C 159 [x109] h) (fun v2 h3 => (kB k (fun h6 => sExt v2 0) (fun v7 h8 => (kB k (fun h9 => sExt v2 1) (fun v10 h11 => (sT98_12 C k x0 x2 x6 v2 v7 v10 h11)) h8)) h3)))
def sT98_14 (C : CT) (k : Nat) (x0 x2 x6 : S) (h : SH) : Tree := (kB k (fun h3 => sNilc x0) (fun v4 h5 => (kB k (fun h6 => sFa 14 v4) (fun v7 h8 => (kB k (fun h9 => sLdA 2 v7 h9) (fun v10 h11 => (sT98_13 C k x0 x2 x6 v10 h11)) h8)) h5)) h)
def sT98_15 (C : CT) (k : Nat) (x0 x2 x6 x97 x102 : S) (h : SH) : Tree := (kB k (gd x97 true uS (fun h1 => sBin .lss x102 (S.i .i64 (.lit 65535)) (SH.pc h1))) (fun v2 h3 => (kB k (fun h4 => sPick x97 v2 (S.b false) (SH.pc h4)) (fun v5 h6 => (kS v5 (fun h9 => (sT98_14 C k x0 x2 x6 h9)) (fun h10 => (sK98_1 C k x2 x6 h10)) h6)) h3)) h)
def sT98_16 (C : CT) (k : Nat) (x0 x2 x6 x97 x99 : S) (h : SH) : Tree := (kB k (gd x97 true uS (fun h1 => sFa 14 x99)) (fun v2 h3 => (kB k (gd x97 true uS (fun h4 => sLdA 2 v2 h4)) (fun v5 h6 => (kK (kG x97 true (fun h7 => C 157 [v5] h7) h6) (fun v8 h9 => (sT98_15 C k x0 x2 x6 x97 v8 h9)))) h3)) h)
def sT98_17 (C : CT) (k : Nat) (x0 x2 x6 x90 x95 : S) (h : SH) : Tree := (kB k (fun h1 => sPick x90 x95 (S.b false) (SH.pc h1)) (fun v2 h3 => (kB k (gd v2 true uS (fun h6 => Res.ok x0)) (fun v7 h8 => (kB k (gd v2 true uS (fun h9 => sNilc v7)) (fun v10 h11 => (sT98_16 C k x0 x2 x6 v2 v10 h11)) h8)) h3)) h)
def sT98_18 (C : CT) (k : Nat) (x0 x2 x6 x90 x92 : S) (h : SH) : Tree := (kB k (gd x90 true uS (fun h1 => sFa 3 x92)) (fun v2 h3 => (kB k (gd x90 true uS (fun h4 => sFa 8 v2)) (fun v5 h6 => (kB k (gd x90 true uS (fun h7 => sLd1 v5 h7)) (fun v8 h9 => (sT98_17 C k x0 x2 x6 x90 v8 h9)) h6)) h3)) h)
def sT98_19 (C : CT) (k : Nat) (x0 x2 x6 : S) (h : SH) : Tree := (kB k (fun h3 => sNilc x0) (fun v4 h5 => (kB k (fun h6 => sFa 3 v4) (fun v7 h8 => (kB k (fun h9 => sFa 9 v7) (fun v10 h11 => (sT98_6 C k x0 x2 x6 v10 h11)) h8)) h5)) h)
def sT98_20 (C : CT) (k : Nat) (x0 x1 x2 x6 : S) (h : SH) : Tree := (kB k (fun h3 => sBin .eql x1 (S.i .i64 (.lit 3)) (SH.pc h3)) (fun v4 h5 => (kB k (gd v4 true uS (fun h8 => Res.ok x0)) (fun v9 h10 => (kB k (gd v4 true uS (fun h11 => sNilc v9)) (fun v12 h13 => (sT98_18 C k x0 x2 x6 v4 v12 h13)) h10)) h5)) h)
def sT98_21 (C : CT) (k : Nat) (x0 x2 x6 : S) (h : SH) : Tree := (kB k (fun h3 => sNilc x0) (fun v4 h5 => (kB k (fun h6 => sFa 2 v4) (fun v7 h8 => (kB k (fun h9 => sStore 1 v7 (S.b false) h9) (fun r11 _ => (kB k (fun h16 => sNilc x0) (fun v17 h18 => (kB k (fun h19 => sFa 14 v17) (fun v20 h21 => (kB k (fun h22 => sLdA 2 v20 h22) (fun v23 h24 => (sT98_2 C k x2 x6 x0 v23 h24)) h21)) h18)) r11.2)) h8)) h5)) h)
def sT98_22 (C : CT) (k : Nat) (x0 x1 x2 x6 : S) (h : SH) : Tree := (kB k (fun h3 => sBin .eql x1 (S.i .i64 (.lit 1)) (SH.pc h3)) (fun v4 h5 => (kS v4 (fun h8 => (sT98_19 C k x0 x2 x6 h8)) (fun h9 => (sT98_20 C k x0 x1 x2 x6 h9)) h5)) h)
def sT98_23 (C : CT) (k : Nat) (x0 x1 x2 x6 x38 x43 : S) (h : SH) : Tree := (kB k (fun h1 => sPick x38 x43 (S.b false) (SH.pc h1)) (fun v2 h3 => (kS v2 (fun h6 => (sT98_21 C k x0 x2 x6 h6)) (fun h7 => (sT98_22 C k x0 x1 x2 x6 h7)) h3)) h)
def sT98_24 (C : CT) (k : Nat) (x0 x1 x2 x6 x38 x40 : S) (h : SH) : Tree := (kB k (gd x38 true uS (fun h1 => sFa 3 x40)) (fun v2 h3 => (kB k (gd x38 true uS (fun h4 => sFa 8 v2)) (fun v5 h6 => (kB k (gd x38 true uS (fun h7 => sLd1 v5 h7)) (fun v8 h9 => (sT98_23 C k x0 x1 x2 x6 x38 v8 h9)) h6)) h3)) h)
def sT98_25 (C : CT) (k : Nat) (x0 x2 x6 : S) (h : SH) : Tree := (kB k (fun h3 => sNilc x0) (fun v4 h5 => (kB k (fun h6 => sFa 2 v4) (fun v7 h8 => (kB k (fun h9 => sStore 1 v7 (S.b false) h9) (fun r11 _ => (kK (C 156 [x0, (S.i .i64 (.lit 7)), (S.i .i64 (.lit 0)), (S.i .u32 (.lit 1))] r11.2) (fun v15 h16 => (kB k (fun h19 => sStore 11 x6 v15 h19) (fun r21 _ => (kB k (fun h26 => sLdA 11 x6 h26) (fun v27 h28 => (Tree.leaf (S.tup [v27, x2, (S.b true)]) h28)) r21.2)) h16)))) h8)) h5)) h)
def sT98_26 (C : CT) (k : Nat) (x0 x1 x2 x6 : S) (h : SH) : Tree := (kB k (fun h3 => sBin .eql x1 (S.i .i64 (.lit 1)) (SH.pc h3)) (fun v4 h5 => (kB k (gd v4 true uS (fun h8 => Res.ok x0)) (fun v9 h10 => (kB k (gd v4 true uS (fun h11 => sNilc v9)) (fun v12 h13 => (sT98_24 C k x0 x1 x2 x6 v4 v12 h13)) h10)) h5)) h)
def sT98_27 (C : CT) (k : Nat) (x2 x6 : S) (h : SH) : Tree := (kB k (fun h1 => sBld [(.i .i64 0), (.i .i64 0), (.i .i64 0), (.i .i64 0), (.i .i64 0), (.i .u32 0), (.i .i64 0), (.b false), (.b false), (.i .i64 0), (.i .u32 0)] []) (fun v2 h3 => (kB k (fun h6 => sStore 11 x6 v2 h6) (fun r8 _ => (kB k (fun h13 => sLdA 11 x6 h13) (fun v14 h15 => (Tree.leaf (S.tup [v14, x2, (S.b false)]) h15)) r8.2)) h3)) h)
def sT98_28 (C : CT) (k : Nat) (x0 x1 x2 x6 x17 x22 : S) (h : SH) : Tree := (kB k (fun h1 => sPick x17 (S.b true) x22 (SH.pc h1)) (fun v2 h3 => (kS v2 (fun h4 => (sT98_27 C k x2 x6 h4)) (fun h5 => (kB k (fun h8 => sBin .eql x1 (S.i .i64 (.lit 2)) (SH.pc h8)) (fun v9 h10 => (kS v9 (fun h13 => (sT98_25 C k x0 x2 x6 h13)) (fun h14 => (sT98_26 C k x0 x1 x2 x6 h14)) h10)) h5)) h3)) h)
def sT98_29 (C : CT) (k : Nat) (x0 x1 x2 x6 x17 x19 : S) (h : SH) : Tree := (kB k (gd x17 false uS (fun h1 => sFa 2 x19)) (fun v2 h3 => (kB k (gd x17 false uS (fun h4 => sLd1 v2 h4)) (fun v5 h6 => (kB k (gd x17 false uS (fun h7 => sUn .not v5 (SH.pc h7))) (fun v8 h9 => (sT98_28 C k x0 x1 x2 x6 x17 v8 h9)) h6)) h3)) h)
def sK98 (C : CT) (k : Nat) (x0 x1 x2 : S) (h : SH) : Tree := (kB k (fun h1 => sZero [(.i .i64 0), (.i .i64 0), (.i .i64 0), (.i .i64 0), (.i .i64 0), (.i .u32 0), (.i .i64 0), (.b false), (.b false), (.i .i64 0), (.i .u32 0)] h1) (fun r3 _ => (kB k (fun h10 => sEqz false .p x0 (S.p none) (SH.pc h10)) (fun v11 h12 => (kB k (gd v11 false uS (fun h15 => Res.ok x0)) (fun v16 h17 => (kB k (gd v11 false uS (fun h18 => sNilc v16)) (fun v19 h20 => (sT98_29 C k x0 x1 x2 r3.1 v11 v19 h20)) h17)) h12)) r3.2)) h)
theorem sp98 (C : CT) (k : Nat) : ds C k c98 (sQ98 C k) = fun e h => (sK98 C k (e 0) (e 1) (e 2) h) := by
  refine Eq.trans (sseq_eq (sseq_eq (sseq_eq (sp98_1 C k) rfl) rfl) rfl) ?_
  kernel_rfl
def SF98 : SF := fun C k a h => match a with
  | [a0, a1, a2] => sK98 C k a0 a1 a2 h
  | _ => .no
theorem so98 : SOK IP 98 SF98 := ⟨ir98, ip98, by kernel_rfl, fun C k a h => by
  unfold SF98
  split
  · exact .inr ⟨by kernel_rfl, Eq.symm (Eq.trans (congrFun (congrFun (sp98 C k) _) h) rfl)⟩
  · exact .inl rfl⟩
theorem ip99 : IP 99 = some ir99 := rfl
def sQ99 (C : Nat → List S → SH → Tree) (k : Nat) : X → ES → SH → Tree := QrS k rs99
def sT99_1 (C : CT) (k : Nat) (x11 x12 x14 : S) (h : SH) : Tree := (kK (C 161 [x11, x12, (S.b true), x14] h) (fun v2 h3 => (Tree.leaf (S.tup []) h3)))
def sT99_2 (C : CT) (k : Nat) (x3 x11 : S) (h : SH) : Tree := (kB k (fun h1 => sLdA 11 x3 h1) (fun v2 h3 => (kB k (fun h4 => sFa 10 x3) (fun v5 h6 => (kB k (fun h7 => sLd1 v5 h7) (fun v8 h9 => (sT99_1 C k x11 v2 v8 h9)) h6)) h3)) h)
def sQ99_3 (C : CT) (k : Nat) : X → ES → SH → Tree := (QbS 0 (sQ99 C k))
def sT99_4 (C : CT) (k : Nat) (x22 x23 x25 : S) (h : SH) : Tree := (kK (C 161 [x22, x23, (S.b false), x25] h) (fun v2 h3 => (Tree.leaf (S.tup []) h3)))
def sT99_5 (C : CT) (k : Nat) (x3 x22 : S) (h : SH) : Tree := (kB k (fun h1 => sLdA 11 x3 h1) (fun v2 h3 => (kB k (fun h4 => sFa 10 x3) (fun v5 h6 => (kB k (fun h7 => sLd1 v5 h7) (fun v8 h9 => (sT99_4 C k x22 v2 v8 h9)) h6)) h3)) h)
def sT99_6 (C : CT) (k : Nat) (x0 x3 : S) (h : SH) : Tree := (kB k (fun h3 => sNilc x0) (fun v4 h5 => (kB k (fun h6 => sFa 5 v4) (fun v7 h8 => (kB k (fun h9 => sLd1 v7 h9) (fun v10 h11 => (sT99_5 C k x3 v10 h11)) h8)) h5)) h)
def sK99_3 (C : CT) (k : Nat) (x0 x3 x16 : S) (h : SH) : Tree := (kS x16 (fun h1 => (sT99_6 C k x0 x3 h1)) (fun h2 => (Tree.leaf (S.tup []) h2)) h)
def sJ99_3 (C : CT) (k : Nat) : ES → SH → Tree := fun e h => (sK99_3 C k (e 0) (e 3) (e 16) h)
theorem sp99_3 (C : CT) (k : Nat) : ds C k c99_3 (sQ99_3 C k) = (sJ99_3 C k) := by kernel_rfl
def sT99_7 (C : CT) (k : Nat) (x0 x3 : S) (h : SH) : Tree := (kB k (fun h3 => sNilc x0) (fun v4 h5 => (kB k (fun h6 => sFa 5 v4) (fun v7 h8 => (kB k (fun h9 => sLd1 v7 h9) (fun v10 h11 => (sT99_2 C k x3 v10 h11)) h8)) h5)) h)
def sT99_8 (C : CT) (k : Nat) (x0 x3 x5 : S) (h : SH) : Tree := (kB k (fun h1 => sBin .eql x5 (S.i .i64 (.lit 7)) (SH.pc h1)) (fun v2 h3 => (kS v2 (fun h6 => (sK99_3 C k x0 x3 v2 h6)) (fun h7 => (kB k (fun h8 => sBin .eql x5 (S.i .i64 (.lit 4)) (SH.pc h8)) (fun v9 h10 => (sK99_3 C k x0 x3 v9 h10)) h7)) h3)) h)
def sK99 (C : CT) (k : Nat) (x0 x1 : S) (h : SH) : Tree := (kB k (fun h1 => sBox x1 h1) (fun r3 _ => (kB k (fun h4 => sFa 0 r3.1) (fun v5 h6 => (kB k (fun h7 => sLd1 v5 h7) (fun v8 h9 => (kB k (fun h10 => sBin .eql v8 (S.i .i64 (.lit 2)) (SH.pc h10)) (fun v11 h12 => (kS v11 (fun h15 => (sT99_7 C k x0 r3.1 h15)) (fun h16 => (sT99_8 C k x0 r3.1 v8 h16)) h12)) h9)) h6)) r3.2)) h)
theorem sp99 (C : CT) (k : Nat) : ds C k c99 (sQ99 C k) = fun e h => (sK99 C k (e 0) (e 1) h) := by
  refine Eq.trans (sseq_eq (sseq_eq (sblock_eq (sseq_eq (scond_eq rfl (sseq_eq (sp99_3 C k) rfl)) rfl)) rfl) rfl) ?_
  kernel_rfl
def SF99 : SF := fun C k a h => match a with
  | [a0, a1] => sK99 C k a0 a1 h
  | _ => .no
theorem so99 : SOK IP 99 SF99 := ⟨ir99, ip99, by kernel_rfl, fun C k a h => by
  unfold SF99
  split
  · exact .inr ⟨by kernel_rfl, Eq.symm (Eq.trans (congrFun (congrFun (sp99 C k) _) h) rfl)⟩
  · exact .inl rfl⟩
theorem ip100 : IP 100 = some ir100 := rfl
def sQ100 (C : Nat → List S → SH → Tree) (k : Nat) : X → ES → SH → Tree := QrS k rs100
def sT100_1 (C : CT) (k : Nat) (x0 x3 x9 x17 : S) (h : SH) : Tree := (kB k (gd x9 false uS (fun h1 => sBin .geq x17 (S.i .i64 (.lit 32)) (SH.pc h1))) (fun v2 h3 => (kB k (fun h4 => sPick x9 (S.b true) v2 (SH.pc h4)) (fun v5 h6 => (kS v5 (fun h7 => (Tree.leaf (S.b false) h7)) (fun h8 => (kB k (fun h13 => sFa 1 x3) (fun v14 h15 => (kB k (fun h16 => sLd1 v14 h16) (fun v17 h18 => (kB k (fun h21 => sFa 1 x3) (fun v22 h23 => (kB k (fun h24 => sLd1 v22 h24) (fun v25 h26 => (kB k (fun h27 => sNilc x0) (fun v28 h29 => (kB k (fun h30 => sFa 7 v28) (fun v31 h32 => (kB k (fun h33 => sIaa 1 4 v31 v25 (SH.pc h33)) (fun v34 h35 => (kB k (fun h36 => sLd1 v34 h36) (fun v37 h38 => (kB k (fun h39 => sLdA 11 x3 h39) (fun v40 h41 => (kB k (fun h42 => sNewSl 1 [(.i .i64 0), (.i .i64 0), (.i .i64 0), (.i .i64 0), (.i .i64 0), (.i .u32 0), (.i .i64 0), (.b false), (.b false), (.i .i64 0), (.i .u32 0)] [(0, 11, v40)] h42) (fun r44 _ => (kB k (fun h45 => sApp 11 80 v37 r44.1 h45) (fun r47 _ => (kB k (fun h48 => sNilc x0) (fun v49 h50 => (kB k (fun h51 => sFa 7 v49) (fun v52 h53 => (kB k (fun h54 => sIaa 1 4 v52 v17 (SH.pc h54)) (fun v55 h56 => (kB k (fun h57 => sStore 1 v55 r47.1 h57) (fun r59 _ => (kC (stdyS false 1 v14 r44.2 r47.2) (Tree.leaf (S.b true) r59.2))) h56)) h53)) h50)) r47.2)) r44.2)) h41)) h38)) h35)) h32)) h29)) h26)) h23)) h18)) h15)) h8)) h6)) h3)) h)
def sT100_2 (C : CT) (k : Nat) (x0 x3 x9 x12 x14 : S) (h : SH) : Tree := (kB k (gd x9 false uS (fun h1 => sIaa 1 4 x14 x12 (SH.pc h1))) (fun v2 h3 => (kB k (gd x9 false uS (fun h4 => sLd1 v2 h4)) (fun v5 h6 => (kB k (gd x9 false uS (fun h7 => sLens v5)) (fun v8 h9 => (sT100_1 C k x0 x3 x9 v8 h9)) h6)) h3)) h)
def sT100_3 (C : CT) (k : Nat) (x0 x3 x9 x10 x11 : S) (h : SH) : Tree := (kB k (gd x9 false uS (fun h1 => sLd1 x11 h1)) (fun v2 h3 => (kB k (gd x9 false uS (fun h4 => sNilc x10)) (fun v5 h6 => (kB k (gd x9 false uS (fun h7 => sFa 7 v5)) (fun v8 h9 => (sT100_2 C k x0 x3 x9 v2 v8 h9)) h6)) h3)) h)
def sT100_4 (C : CT) (k : Nat) (x0 x3 x7 : S) (h : SH) : Tree := (kB k (fun h1 => sUn .not x7 (SH.pc h1)) (fun v2 h3 => (kB k (gd v2 false uS (fun h6 => Res.ok x0)) (fun v7 h8 => (kB k (gd v2 false uS (fun h9 => sFa 1 x3)) (fun v10 h11 => (sT100_3 C k x0 x3 v2 v7 v10 h11)) h8)) h3)) h)
def sK100 (C : CT) (k : Nat) (x0 x1 : S) (h : SH) : Tree := (kB k (fun h1 => sBox x1 h1) (fun r3 _ => (kB k (fun h6 => sFa 1 r3.1) (fun v7 h8 => (kB k (fun h9 => sLd1 v7 h9) (fun v10 h11 => (kK (C 95 [v10] h11) (fun v13 h14 => (sT100_4 C k x0 r3.1 v13 h14)))) h8)) r3.2)) h)
theorem sp100 (C : CT) (k : Nat) : ds C k c100 (sQ100 C k) = fun e h => (sK100 C k (e 0) (e 1) h) := by kernel_rfl
def SF100 : SF := fun C k a h => match a with
  | [a0, a1] => sK100 C k a0 a1 h
  | _ => .no
theorem so100 : SOK IP 100 SF100 := ⟨ir100, ip100, by kernel_rfl, fun C k a h => by
  unfold SF100
  split
  · exact .inr ⟨by kernel_rfl, Eq.symm (Eq.trans (congrFun (congrFun (sp100 C k) _) h) rfl)⟩
  · exact .inl rfl⟩
theorem ip101 : IP 101 = some ir101 := rfl
def sQ101 (C : Nat → List S → SH → Tree) (k : Nat) : X → ES → SH → Tree := QrS k rs101
def sK101 (C : CT) (k : Nat) (x0 : S) (h : SH) : Tree := (kB k (fun h5 => sEqz false .s x0 S.nsl (SH.pc h5)) (fun v6 h7 => (kS v6 (fun h8 => (Tree.leaf S.nsl h8)) (fun h9 => (kB k (fun h12 => sNewSl 0 [] [] h12) (fun r14 _ => (kB k (fun h17 => sApp 11 80 r14.1 x0 h17) (fun r19 _ => (Tree.leaf r19.1 r19.2)) r14.2)) h9)) h7)) h)
theorem sp101 (C : CT) (k : Nat) : ds C k c101 (sQ101 C k) = fun e h => (sK101 C k (e 0) h) := by kernel_rfl
def SF101 : SF := fun C k a h => match a with
  | [a0] => sK101 C k a0 h
  | _ => .no
theorem so101 : SOK IP 101 SF101 := ⟨ir101, ip101, by kernel_rfl, fun C k a h => by
  unfold SF101
  split
  · exact .inr ⟨by kernel_rfl, Eq.symm (Eq.trans (congrFun (congrFun (sp101 C k) _) h) rfl)⟩
  · exact .inl rfl⟩
theorem ip102 : IP 102 = some ir102 := rfl
def sQ102 (C : Nat → List S → SH → Tree) (k : Nat) : X → ES → SH → Tree := QrS k rs102
def sK102 (C : CT) (k : Nat) (x0 x1 : S) (h : SH) : Tree := (kB k (fun h1 => sBox x0 h1) (fun r3 _ => (kB k (fun h4 => sZero [(.i .i64 0), (.i .i64 0), (.i .u64 0), (.i .u64 0), (.i .u64 0), (.i .u64 0), (.i .i64 0), (.b false)] h4) (fun r6 _ => (kB k (fun h7 => sLdA 2 r3.1 h7) (fun v8 h9 => (kB k (fun h12 => sBld [(.i .i64 0), (.i .i64 0), (.i .u64 0), (.i .u64 0), (.i .u64 0), (.i .u64 0), (.i .i64 0), (.b false)] [(0, 2, v8), (2, 1, x1)]) (fun v13 h14 => (kB k (fun h15 => sStore 8 r6.1 v13 h15) (fun r17 _ => (kB k (fun h18 => sLdA 8 r6.1 h18) (fun v19 h20 => (Tree.leaf v19 h20)) r17.2)) h14)) h9)) r6.2)) r3.2)) h)
theorem sp102 (C : CT) (k : Nat) : ds C k c102 (sQ102 C k) = fun e h => (sK102 C k (e 0) (e 1) h) := by kernel_rfl
def SF102 : SF := fun C k a h => match a with
  | [a0, a1] => sK102 C k a0 a1 h
  | _ => .no
theorem so102 : SOK IP 102 SF102 := ⟨ir102, ip102, by kernel_rfl, fun C k a h => by
  unfold SF102
  split
  · exact .inr ⟨by kernel_rfl, Eq.symm (Eq.trans (congrFun (congrFun (sp102 C k) _) h) rfl)⟩
  · exact .inl rfl⟩
theorem ip103 : IP 103 = some ir103 := rfl
def sQ103 (C : Nat → List S → SH → Tree) (k : Nat) : X → ES → SH → Tree := QrS k rs103
def sQ103_1 (C : CT) (k : Nat) : X → ES → SH → Tree := (sQ103 C k)
def sK103_1 (C : CT) (k : Nat) (x2 x4 : S) (h : SH) : Tree := (kB k (fun h1 => sLdA 8 x2 h1) (fun v2 h3 => (kB k (fun h4 => sStore 8 x4 v2 h4) (fun r6 _ => (kB k (fun h7 => sLdA 8 x4 h7) (fun v8 h9 => (Tree.leaf v8 h9)) r6.2)) h3)) h)
def sJ103_1 (C : CT) (k : Nat) : ES → SH → Tree := fun e h => (sK103_1 C k (e 2) (e 4) h)
theorem sp103_1 (C : CT) (k : Nat) : ds C k c103_1 (sQ103_1 C k) = (sJ103_1 C k) := by kernel_rfl
def sT103_2 (C : CT) (k : Nat) (x2 x4 x39 : S) (h : SH) : Tree := (kB k (fun h1 => sFa 6 x2) (fun v2 h3 => (kB k (fun h4 => sStore 1 v2 x39 h4) (fun r6 _ => (sK103_1 C k x2 x4 r6.2)) h3)) h)
def sT103_3 (C : CT) (k : Nat) (x2 x4 x26 x34 : S) (h : SH) : Tree := (kB k (fun h1 => sFa 3 x2) (fun v2 h3 => (kB k (fun h4 => sIaa 1 3 v2 x26 (SH.pc h4)) (fun v5 h6 => (kB k (fun h7 => sStore 1 v5 x34 h7) (fun r9 _ => (kB k (fun h10 => sFa 6 x2) (fun v11 h12 => (kB k (fun h13 => sLd1 v11 h13) (fun v14 h15 => (kB k (fun h16 => sBin .add v14 (S.i .i64 (.lit 1)) (SH.pc h16)) (fun v17 h18 => (sT103_2 C k x2 x4 v17 h18)) h15)) h12)) r9.2)) h6)) h3)) h)
def sT103_4 (C : CT) (k : Nat) (x2 x4 x7 x26 x27 x29 x30 : S) (h : SH) : Tree := (kB k (fun h1 => sLd1 x30 h1) (fun v2 h3 => (kK (C 149 [x29, v2, x7] h3) (fun v7 h8 => (kK (C 144 [x27, v7] h8) (fun v10 h11 => (sT103_3 C k x2 x4 x26 v10 h11)))))) h)
def sT103_5 (C : CT) (k : Nat) (x1 x2 x4 : S) (h : SH) : Tree := (kB k (fun h3 => sFa 0 x2) (fun v4 h5 => (kB k (fun h6 => sLdA 2 v4 h6) (fun v7 h8 => (kB k (fun h9 => sFa 2 x2) (fun v10 h11 => (kB k (fun h12 => sLd1 v10 h12) (fun v13 h14 => (kK (C 147 [v7, v13] h14) (fun v16 h17 => (kB k (fun h18 => sFa 2 x2) (fun v19 h20 => (kB k (fun h21 => sLd1 v19 h21) (fun v22 h23 => (kB k (fun h24 => sFa 0 x2) (fun v25 h26 => (kB k (fun h27 => sFa 1 v25) (fun v28 h29 => (kB k (fun h30 => sLd1 v28 h30) (fun v31 h32 => (kB k (fun h33 => sCvi .u64 v31 (SH.pc h33)) (fun v34 h35 => (kB k (fun h36 => sBin .add v22 v34 (SH.pc h36)) (fun v37 h38 => (kK (C 109 [x1, v16, v37] h38) (fun v40 h41 => (kC (stdyS false 1 v19 h14 h17) (kC (stdyS false 1 v28 h14 h17) (kB k (fun h42 => sFa 6 x2) (fun v43 h44 => (kB k (fun h45 => sStore 1 v43 (S.i .i64 (.lit 5)) h45) (fun r47 _ => (sK103_1 C k x2 x4 r47.2)) h44)) h41)))))) h35)) h32)) h29)) h26)) h23)) h20)) h17)))) h11)) h8)) h5)) h)
def sT103_6 (C : CT) (k : Nat) (x1 x2 x4 : S) (h : SH) : Tree := (kB k (fun h1 => sFa 6 x2) (fun v2 h3 => (kB k (fun h4 => sLd1 v2 h4) (fun v5 h6 => (kB k (fun h7 => sBin .sub v5 (S.i .i64 (.lit 1)) (SH.pc h7)) (fun v8 h9 => (kB k (fun h16 => sFa 0 x2) (fun v17 h18 => (kB k (fun h19 => sLdA 2 v17 h19) (fun v20 h21 => (kB k (fun h22 => sFa 2 x2) (fun v23 h24 => (sT103_4 C k x2 x4 v8 v8 x1 v20 v23 h24)) h21)) h18)) h9)) h6)) h3)) h)
def sT103_7 (C : CT) (k : Nat) (x1 x2 x4 : S) (h : SH) : Tree := (kB k (fun h3 => sFa 0 x2) (fun v4 h5 => (kB k (fun h6 => sLdA 2 v4 h6) (fun v7 h8 => (kB k (fun h9 => sFa 2 x2) (fun v10 h11 => (kB k (fun h12 => sLd1 v10 h12) (fun v13 h14 => (kK (C 147 [v7, v13] h14) (fun v16 h17 => (kK (C 144 [x1, v16] h17) (fun v19 h20 => (kB k (fun h21 => sFa 2 x2) (fun v22 h23 => (kB k (fun h24 => sLd1 v22 h24) (fun v25 h26 => (kB k (fun h27 => sBin .add v25 (S.i .u64 (.lit 1)) (SH.pc h27)) (fun v28 h29 => (kB k (fun h30 => sBin .eql v19 v28 (SH.pc h30)) (fun v31 h32 => (kC (stdyS false 1 v22 h14 h17) (kC (stdyS false 1 v22 h17 h20) (kS v31 (fun h33 => (kB k (fun h35 => sFa 6 x2) (fun v36 h37 => (kB k (fun h38 => sStore 1 v36 (S.i .i64 (.lit 1)) h38) (fun r40 _ => (sK103_1 C k x2 x4 r40.2)) h37)) h33)) (fun h34 => (kB k (fun h41 => sFa 7 x2) (fun v42 h43 => (kB k (fun h44 => sStore 1 v42 (S.b true) h44) (fun r46 _ => (sK103_1 C k x2 x4 r46.2)) h43)) h34)) h32)))) h29)) h26)) h23)) h20)))))) h11)) h8)) h5)) h)
def sT103_8 (C : CT) (k : Nat) (x1 x2 x4 x22 : S) (h : SH) : Tree := (kB k (fun h1 => sBin .eql x22 (S.i .i64 (.lit 4)) (SH.pc h1)) (fun v2 h3 => (kS v2 (fun h6 => (sT103_5 C k x1 x2 x4 h6)) (fun h7 => (sT103_6 C k x1 x2 x4 h7)) h3)) h)
def sT103_9 (C : CT) (k : Nat) (x2 x4 : S) (h : SH) : Tree := (kB k (fun h1 => sFa 7 x2) (fun v2 h3 => (kB k (fun h4 => sStore 1 v2 (S.b true) h4) (fun r6 _ => (kB k (fun h7 => sLdA 8 x2 h7) (fun v8 h9 => (kB k (fun h10 => sStore 8 x4 v8 h10) (fun r12 _ => (kB k (fun h13 => sLdA 8 x4 h13) (fun v14 h15 => (Tree.leaf v14 h15)) r12.2)) h9)) r6.2)) h3)) h)
def sT103_10 (C : CT) (k : Nat) (x1 x2 x4 x17 : S) (h : SH) : Tree := (kB k (fun h1 => sUn .not x17 (SH.pc h1)) (fun v2 h3 => (kS v2 (fun h4 => (sT103_9 C k x2 x4 h4)) (fun h5 => (kB k (fun h6 => sFa 6 x2) (fun v7 h8 => (kB k (fun h9 => sLd1 v7 h9) (fun v10 h11 => (kB k (fun h12 => sBin .eql v10 (S.i .i64 (.lit 0)) (SH.pc h12)) (fun v13 h14 => (kS v13 (fun h17 => (sT103_7 C k x1 x2 x4 h17)) (fun h18 => (sT103_8 C k x1 x2 x4 v10 h18)) h14)) h11)) h8)) h5)) h3)) h)
def sT103_11 (C : CT) (k : Nat) (x1 x2 x4 x8 x11 : S) (h : SH) : Tree := (kB k (fun h1 => sExt x8 1) (fun v2 h3 => (kS v2 (fun h10 => (kB k (fun h12 => sLdA 8 x2 h12) (fun v13 h14 => (kB k (fun h15 => sStore 8 x4 v13 h15) (fun r17 _ => (kB k (fun h18 => sLdA 8 x4 h18) (fun v19 h20 => (Tree.leaf v19 h20)) r17.2)) h14)) h10)) (fun h11 => (kB k (fun h21 => sFa 0 x2) (fun v22 h23 => (kB k (fun h24 => sLdA 2 v22 h24) (fun v25 h26 => (kK (C 58 [v25] h26) (fun v28 h29 => (sT103_10 C k x1 x2 x4 v28 h29)))) h23)) h11)) h3)) h)
def sK103 (C : CT) (k : Nat) (x0 x1 : S) (h : SH) : Tree := (kB k (fun h1 => sBox x0 h1) (fun r3 _ => (kB k (fun h4 => sZero [(.i .i64 0), (.i .i64 0), (.i .u64 0), (.i .u64 0), (.i .u64 0), (.i .u64 0), (.i .i64 0), (.b false)] h4) (fun r6 _ => (kB k (fun h7 => sLdA 8 r3.1 h7) (fun v8 h9 => (kK (C 104 [v8] h9) (fun v11 h12 => (kB k (fun h15 => sExt v11 0) (fun v16 h17 => (sT103_11 C k x1 r3.1 r6.1 v11 v16 h17)) h12)))) r6.2)) r3.2)) h)
theorem sp103 (C : CT) (k : Nat) : ds C k c103 (sQ103 C k) = fun e h => (sK103 C k (e 0) (e 1) h) := by
  refine Eq.trans (sseq_eq (sseq_eq (sseq_eq (sseq_eq (sp103_1 C k) rfl) rfl) rfl) rfl) ?_
  kernel_rfl
def SF103 : SF := fun C k a h => match a with
  | [a0, a1] => sK103 C k a0 a1 h
  | _ => .no
theorem so103 : SOK IP 103 SF103 := ⟨ir103, ip103, by kernel_rfl, fun C k a h => by
  unfold SF103
  split
  · exact .inr ⟨by kernel_rfl, Eq.symm (Eq.trans (congrFun (congrFun (sp103 C k) _) h) rfl)⟩
  · exact .inl rfl⟩
theorem ip104 : IP 104 = some ir104 := rfl
def sQ104 (C : Nat → List S → SH → Tree) (k : Nat) : X → ES → SH → Tree := QrS k rs104
def sT104_1 (C : CT) (k : Nat) (x1 : S) (h : SH) : Tree := (kB k (fun h1 => sFa 6 x1) (fun v2 h3 => (kB k (fun h4 => sLd1 v2 h4) (fun v5 h6 => (kB k (fun h7 => sBin .eql v5 (S.i .i64 (.lit 5)) (SH.pc h7)) (fun v8 h9 => (kS v8 (fun h12 => (Tree.leaf (S.tup [(S.i .i64 (.lit 0)), (S.b true)]) h12)) (fun h13 => (Tree.leaf (S.tup [(S.i .i64 (.lit 0)), (S.b false)]) h13)) h9)) h6)) h3)) h)
def sK104 (C : CT) (k : Nat) (x0 : S) (h : SH) : Tree := (kB k (fun h1 => sBox x0 h1) (fun r3 _ => (kB k (fun h8 => sFa 7 r3.1) (fun v9 h10 => (kB k (fun h11 => sLd1 v9 h11) (fun v12 h13 => (kS v12 (fun h16 => (Tree.leaf (S.tup [(S.i .i64 (.lit 4)), (S.b true)]) h16)) (fun h17 => (sT104_1 C k r3.1 h17)) h13)) h10)) r3.2)) h)
theorem sp104 (C : CT) (k : Nat) : ds C k c104 (sQ104 C k) = fun e h => (sK104 C k (e 0) h) := by kernel_rfl
def SF104 : SF := fun C k a h => match a with
  | [a0] => sK104 C k a0 h
  | _ => .no
theorem so104 : SOK IP 104 SF104 := ⟨ir104, ip104, by kernel_rfl, fun C k a h => by
  unfold SF104
  split
  · exact .inr ⟨by kernel_rfl, Eq.symm (Eq.trans (congrFun (congrFun (sp104 C k) _) h) rfl)⟩
  · exact .inl rfl⟩
theorem ip105 : IP 105 = some ir105 := rfl
def sQ105 (C : Nat → List S → SH → Tree) (k : Nat) : X → ES → SH → Tree := QrS k rs105
def sT105_1 (C : CT) (k : Nat) (x2 : S) (h : SH) : Tree := (kB k (fun h1 => sBld [(.i .i64 0), (.i .i64 0), (.i .i64 0), (.i .i64 0), (.i .i64 0), (.i .u32 0), (.i .i64 0), (.b false), (.b false), (.i .i64 0), (.i .u32 0)] []) (fun v2 h3 => (kB k (fun h4 => sStore 11 x2 v2 h4) (fun r6 _ => (kB k (fun h9 => sLdA 11 x2 h9) (fun v10 h11 => (Tree.leaf (S.tup [v10, (S.i .i64 (.lit 2))]) h11)) r6.2)) h3)) h)
def sT105_2 (C : CT) (k : Nat) (x2 x5 x101 x102 : S) (h : SH) : Tree := (kK (kG x101 false (fun h1 => C 142 [x102] h1) h) (fun v2 h3 => (kB k (gd x101 false uS (fun h4 => sUn .not v2 (SH.pc h4))) (fun v5 h6 => (kB k (fun h7 => sPick x101 (S.b true) v5 (SH.pc h7)) (fun v8 h9 => (kS v8 (fun h10 => (sT105_1 C k x2 h10)) (fun h11 => (kB k (fun h12 => sLdA 11 x5 h12) (fun v13 h14 => (kB k (fun h15 => sStore 11 x2 v13 h15) (fun r17 _ => (kB k (fun h20 => sLdA 11 x2 h20) (fun v21 h22 => (Tree.leaf (S.tup [v21, (S.i .i64 (.lit 0))]) h22)) r17.2)) h14)) h11)) h9)) h6)) h3)))
def sT105_3 (C : CT) (k : Nat) (x2 x5 x93 x98 : S) (h : SH) : Tree := (kB k (gd x93 false uS (fun h1 => sBin .neq x98 (S.i .u64 (.lit 0)) (SH.pc h1))) (fun v2 h3 => (kB k (fun h4 => sPick x93 (S.b true) v2 (SH.pc h4)) (fun v5 h6 => (kB k (gd v5 false uS (fun h9 => sLdA 11 x5 h9)) (fun v10 h11 => (sT105_2 C k x2 x5 v5 v10 h11)) h6)) h3)) h)
def sT105_4 (C : CT) (k : Nat) (x2 x5 x93 x95 : S) (h : SH) : Tree := (kB k (gd x93 false uS (fun h1 => sLdA 2 (S.p (some (12, 0))) h1)) (fun v2 h3 => (kB k (gd x93 false uR (fun h4 => sNewSl 1 [(.i .i64 0), (.i .i64 0)] [(0, 2, v2)] h4)) (fun r6 _ => (kK (kG x93 false (fun h7 => C 163 [x95, r6.1] h7) r6.2) (fun v8 h9 => (sT105_3 C k x2 x5 x93 v8 h9)))) h3)) h)
def sT105_5 (C : CT) (k : Nat) (x1 x2 x5 x91 : S) (h : SH) : Tree := (kB k (fun h1 => sBin .neq x91 (S.i .u64 (.lit 0)) (SH.pc h1)) (fun v2 h3 => (kB k (gd v2 false uS (fun h6 => sIaa 1 3 x1 (S.i .i64 (.lit 2)) (SH.pc h6))) (fun v7 h8 => (kB k (gd v2 false uS (fun h9 => sLd1 v7 h9)) (fun v10 h11 => (sT105_4 C k x2 x5 v2 v10 h11)) h8)) h3)) h)
def sT105_6 (C : CT) (k : Nat) (x1 x2 x5 x81 x82 x83 x84 x85 x86 x87 x88 : S) (h : SH) : Tree := (kB k (fun h1 => sLdA 2 (S.p (some (9, 0))) h1) (fun v2 h3 => (kB k (fun h4 => sNewSl 8 [(.i .i64 0), (.i .i64 0), (.i .i64 0), (.i .i64 0), (.i .i64 0), (.i .i64 0), (.i .i64 0), (.i .i64 0), (.i .i64 0), (.i .i64 0), (.i .i64 0), (.i .i64 0), (.i .i64 0), (.i .i64 0), (.i .i64 0), (.i .i64 0)] [(0, 2, x82), (2, 2, x83), (4, 2, x84), (6, 2, x85), (8, 2, x86), (10, 2, x87), (12, 2, x88), (14, 2, v2)] h4) (fun r6 _ => (kK (C 163 [x81, r6.1] r6.2) (fun v8 h9 => (sT105_5 C k x1 x2 x5 v8 h9)))) h3)) h)
def sT105_7 (C : CT) (k : Nat) (x1 x2 x5 x81 x82 x83 x84 x85 : S) (h : SH) : Tree := (kB k (fun h1 => sLdA 2 (S.p (some (6, 0))) h1) (fun v2 h3 => (kB k (fun h4 => sLdA 2 (S.p (some (7, 0))) h4) (fun v5 h6 => (kB k (fun h7 => sLdA 2 (S.p (some (8, 0))) h7) (fun v8 h9 => (sT105_6 C k x1 x2 x5 x81 x82 x83 x84 x85 v2 v5 v8 h9)) h6)) h3)) h)
def sT105_8 (C : CT) (k : Nat) (x1 x2 x5 x81 x82 : S) (h : SH) : Tree := (kB k (fun h1 => sLdA 2 (S.p (some (3, 0))) h1) (fun v2 h3 => (kB k (fun h4 => sLdA 2 (S.p (some (4, 0))) h4) (fun v5 h6 => (kB k (fun h7 => sLdA 2 (S.p (some (5, 0))) h7) (fun v8 h9 => (sT105_7 C k x1 x2 x5 x81 x82 v2 v5 v8 h9)) h6)) h3)) h)
def sT105_9 (C : CT) (k : Nat) (x1 x2 x5 x78 x79 : S) (h : SH) : Tree := (kB k (fun h1 => sStore 1 x79 x78 h1) (fun r3 _ => (kB k (fun h4 => sIaa 1 3 x1 (S.i .i64 (.lit 0)) (SH.pc h4)) (fun v5 h6 => (kB k (fun h7 => sLd1 v5 h7) (fun v8 h9 => (kB k (fun h10 => sLdA 2 (S.p (some (2, 0))) h10) (fun v11 h12 => (sT105_8 C k x1 x2 x5 v8 v11 h12)) h9)) h6)) r3.2)) h)
def sT105_10 (C : CT) (k : Nat) (x1 x2 x5 x73 x74 x76 : S) (h : SH) : Tree := (kK (kV C x73 [x74, x76] h) (fun v2 h3 => (kB k (fun h4 => sCvi .i64 v2 (SH.pc h4)) (fun v5 h6 => (kB k (fun h7 => sFa 9 x5) (fun v8 h9 => (sT105_9 C k x1 x2 x5 v5 v8 h9)) h6)) h3)))
def sK105 (C : CT) (k : Nat) (x0 : S) (h : SH) : Tree := (kB k (fun h1 => sBox x0 h1) (fun r3 _ => (kB k (fun h4 => sZero [(.i .i64 0), (.i .i64 0), (.i .i64 0), (.i .i64 0), (.i .i64 0), (.i .u32 0), (.i .i64 0), (.b false), (.b false), (.i .i64 0), (.i .u32 0)] h4) (fun r6 _ => (kB k (fun h13 => sLdA 2 (S.p (some (7, 0))) h13) (fun v14 h15 => (kB k (fun h16 => sIaa 1 3 r3.1 (S.i .i64 (.lit 0)) (SH.pc h16)) (fun v17 h18 => (kB k (fun h19 => sLd1 v17 h19) (fun v20 h21 => (kK (kV C (S.fn 162 []) [v14, v20] h21) (fun v23 h24 => (kB k (fun h25 => sBin .eql v23 (S.i .u64 (.lit 1)) (SH.pc h25)) (fun v26 h27 => (kB k (fun h30 => sLdA 2 (S.p (some (8, 0))) h30) (fun v31 h32 => (kB k (fun h33 => sIaa 1 3 r3.1 (S.i .i64 (.lit 0)) (SH.pc h33)) (fun v34 h35 => (kB k (fun h36 => sLd1 v34 h36) (fun v37 h38 => (kK (kV C (S.fn 162 []) [v31, v37] h38) (fun v40 h41 => (kB k (fun h42 => sBin .eql v40 (S.i .u64 (.lit 1)) (SH.pc h42)) (fun v43 h44 => (kB k (fun h47 => sLdA 2 (S.p (some (11, 0))) h47) (fun v48 h49 => (kB k (fun h50 => sIaa 1 3 r3.1 (S.i .i64 (.lit 1)) (SH.pc h50)) (fun v51 h52 => (kB k (fun h53 => sLd1 v51 h53) (fun v54 h55 => (kK (kV C (S.fn 162 []) [v48, v54] h55) (fun v57 h58 => (kB k (fun h59 => sCvi .u32 v57 (SH.pc h59)) (fun v60 h61 => (kB k (fun h64 => sLdA 2 (S.p (some (10, 0))) h64) (fun v65 h66 => (kB k (fun h67 => sIaa 1 3 r3.1 (S.i .i64 (.lit 1)) (SH.pc h67)) (fun v68 h69 => (kB k (fun h70 => sLd1 v68 h70) (fun v71 h72 => (kK (kV C (S.fn 162 []) [v65, v71] h72) (fun v74 h75 => (kB k (fun h76 => sCvi .u32 v74 (SH.pc h76)) (fun v77 h78 => (kB k (fun h79 => sBld [(.i .i64 0), (.i .i64 0), (.i .i64 0), (.i .i64 0), (.i .i64 0), (.i .u32 0), (.i .i64 0), (.b false), (.b false), (.i .i64 0), (.i .u32 0)] [(7, 1, v26), (8, 1, v43), (5, 1, v60), (10, 1, v77)]) (fun v80 h81 => (kB k (fun h82 => sZero [(.i .i64 0), (.i .i64 0), (.i .i64 0), (.i .i64 0), (.i .i64 0), (.i .u32 0), (.i .i64 0), (.b false), (.b false), (.i .i64 0), (.i .u32 0)] h82) (fun r84 _ => (kB k (fun h85 => sStore 11 r84.1 v80 h85) (fun r87 _ => (kC (stdyS true 2 (S.p (some (8, 0))) h21 h24) (kC (stdyS false 1 v34 h21 h24) (kC (stdyS true 2 (S.p (some (11, 0))) h21 h24) (kC (stdyS true 2 (S.p (some (11, 0))) h38 h41) (kC (stdyS false 1 v51 h21 h24) (kC (stdyS false 1 v51 h38 h41) (kC (stdyS true 2 (S.p (some (10, 0))) h21 h24) (kC (stdyS true 2 (S.p (some (10, 0))) h38 h41) (kC (stdyS true 2 (S.p (some (10, 0))) h55 h58) (kC (stdyS false 1 v68 h21 h24) (kC (stdyS false 1 v68 h38 h41) (kC (stdyS false 1 v68 h55 h58) (kB k (fun h90 => sLdA 2 (S.p (some (2, 0))) h90) (fun v91 h92 => (kB k (fun h93 => sIaa 1 3 r3.1 (S.i .i64 (.lit 0)) (SH.pc h93)) (fun v94 h95 => (kB k (fun h96 => sLd1 v94 h96) (fun v97 h98 => (kK (kV C (S.fn 162 []) [v91, v97] h98) (fun v100 h101 => (kB k (fun h102 => sCvi .i64 v100 (SH.pc h102)) (fun v103 h104 => (kB k (fun h107 => sLdA 2 (S.p (some (3, 0))) h107) (fun v108 h109 => (kB k (fun h110 => sIaa 1 3 r3.1 (S.i .i64 (.lit 0)) (SH.pc h110)) (fun v111 h112 => (kB k (fun h113 => sLd1 v111 h113) (fun v114 h115 => (kK (kV C (S.fn 162 []) [v108, v114] h115) (fun v117 h118 => (kB k (fun h119 => sCvi .i64 v117 (SH.pc h119)) (fun v120 h121 => (kB k (fun h124 => sLdA 2 (S.p (some (4, 0))) h124) (fun v125 h126 => (kB k (fun h127 => sIaa 1 3 r3.1 (S.i .i64 (.lit 0)) (SH.pc h127)) (fun v128 h129 => (kB k (fun h130 => sLd1 v128 h130) (fun v131 h132 => (kK (kV C (S.fn 162 []) [v125, v131] h132) (fun v134 h135 => (kB k (fun h136 => sCvi .i64 v134 (SH.pc h136)) (fun v137 h138 => (kB k (fun h139 => sFa 0 r84.1) (fun v140 h141 => (kB k (fun h142 => sStore 1 v140 v103 h142) (fun r144 _ => (kB k (fun h145 => sFa 1 r84.1) (fun v146 h147 => (kB k (fun h148 => sStore 1 v146 v120 h148) (fun r150 _ => (kB k (fun h151 => sFa 2 r84.1) (fun v152 h153 => (kB k (fun h154 => sStore 1 v152 v137 h154) (fun r156 _ => (kC (stdyS true 2 (S.p (some (3, 0))) h98 h101) (kC (stdyS false 1 v111 h98 h101) (kC (stdyS true 2 (S.p (some (4, 0))) h98 h101) (kC (stdyS true 2 (S.p (some (4, 0))) h115 h118) (kC (stdyS false 1 v128 h98 h101) (kC (stdyS false 1 v128 h115 h118) (kB k (fun h159 => sLdA 2 (S.p (some (5, 0))) h159) (fun v160 h161 => (kB k (fun h162 => sIaa 1 3 r3.1 (S.i .i64 (.lit 0)) (SH.pc h162)) (fun v163 h164 => (kB k (fun h165 => sLd1 v163 h165) (fun v166 h167 => (kK (kV C (S.fn 162 []) [v160, v166] h167) (fun v169 h170 => (kB k (fun h171 => sCvi .i64 v169 (SH.pc h171)) (fun v172 h173 => (kB k (fun h176 => sLdA 2 (S.p (some (6, 0))) h176) (fun v177 h178 => (kB k (fun h179 => sIaa 1 3 r3.1 (S.i .i64 (.lit 0)) (SH.pc h179)) (fun v180 h181 => (kB k (fun h182 => sLd1 v180 h182) (fun v183 h184 => (kK (kV C (S.fn 162 []) [v177, v183] h184) (fun v186 h187 => (kB k (fun h188 => sCvi .i64 v186 (SH.pc h188)) (fun v189 h190 => (kB k (fun h193 => sLdA 2 (S.p (some (9, 0))) h193) (fun v194 h195 => (kB k (fun h196 => sIaa 1 3 r3.1 (S.i .i64 (.lit 0)) (SH.pc h196)) (fun v197 h198 => (kB k (fun h199 => sLd1 v197 h199) (fun v200 h201 => (kK (kV C (S.fn 162 []) [v194, v200] h201) (fun v203 h204 => (kB k (fun h205 => sCvi .i64 v203 (SH.pc h205)) (fun v206 h207 => (kB k (fun h208 => sFa 3 r84.1) (fun v209 h210 => (kB k (fun h211 => sStore 1 v209 v172 h211) (fun r213 _ => (kB k (fun h214 => sFa 6 r84.1) (fun v215 h216 => (kB k (fun h217 => sStore 1 v215 v189 h217) (fun r219 _ => (kB k (fun h220 => sFa 4 r84.1) (fun v221 h222 => (kB k (fun h223 => sStore 1 v221 v206 h223) (fun r225 _ => (kC (stdyS true 2 (S.p (some (6, 0))) h167 h170) (kC (stdyS false 1 v180 h167 h170) (kC (stdyS true 2 (S.p (some (9, 0))) h167 h170) (kC (stdyS true 2 (S.p (some (9, 0))) h184 h187) (kC (stdyS false 1 v197 h167 h170) (kC (stdyS false 1 v197 h184 h187) (kB k (fun h228 => sLdA 2 (S.p (some (12, 0))) h228) (fun v229 h230 => (kB k (fun h231 => sIaa 1 3 r3.1 (S.i .i64 (.lit 2)) (SH.pc h231)) (fun v232 h233 => (kB k (fun h234 => sLd1 v232 h234) (fun v235 h236 => (sT105_10 C k r3.1 r6.1 r84.1 (S.fn 162 []) v229 v235 h236)) h233)) h230)) r225.2)))))))) h222)) r219.2)) h216)) r213.2)) h210)) h207)) h204)))) h198)) h195)) h190)) h187)))) h181)) h178)) h173)) h170)))) h164)) h161)) r156.2)))))))) h153)) r150.2)) h147)) r144.2)) h141)) h138)) h135)))) h129)) h126)) h121)) h118)))) h112)) h109)) h104)) h101)))) h95)) h92)) r87.2)))))))))))))) r84.2)) h81)) h78)) h75)))) h69)) h66)) h61)) h58)))) h52)) h49)) h44)) h41)))) h35)) h32)) h27)) h24)))) h18)) h15)) r6.2)) r3.2)) h)
theorem sp105 (C : CT) (k : Nat) : ds C k c105 (sQ105 C k) = fun e h => (sK105 C k (e 0) h) := by kernel_rfl
def SF105 : SF := fun C k a h => match a with
  | [a0] => sK105 C k a0 h
  | _ => .no
theorem so105 : SOK IP 105 SF105 := ⟨ir105, ip105, by kernel_rfl, fun C k a h => by
  unfold SF105
  split
  · exact .inr ⟨by kernel_rfl, Eq.symm (Eq.trans (congrFun (congrFun (sp105 C k) _) h) rfl)⟩
  · exact .inl rfl⟩
theorem ip106 : IP 106 = some ir106 := rfl
def sQ106 (C : Nat → List S → SH → Tree) (k : Nat) : X → ES → SH → Tree := QrS k rs106
def sK106 (C : CT) (k : Nat) (x0 : S) (h : SH) : Tree := (kB k (fun h1 => sBox x0 h1) (fun r3 _ => (kB k (fun h4 => sZero [(.i .u64 0), (.i .u64 0), (.i .u64 0)] h4) (fun r6 _ => (kB k (fun h7 => sFa 6 r3.1) (fun v8 h9 => (kB k (fun h10 => sLd1 v8 h10) (fun v11 h12 => (kB k (fun h13 => sBin .neq v11 (S.i .i64 (.lit 5)) (SH.pc h13)) (fun v14 h15 => (kS v14 (fun h16 => (kB k (fun h18 => sBld [(.i .u64 0), (.i .u64 0), (.i .u64 0)] []) (fun v19 h20 => (kB k (fun h21 => sStore 3 r6.1 v19 h21) (fun r23 _ => (kB k (fun h24 => sLdA 3 r6.1 h24) (fun v25 h26 => (Tree.leaf v25 h26)) r23.2)) h20)) h16)) (fun h17 => (kB k (fun h27 => sFa 3 r3.1) (fun v28 h29 => (kB k (fun h30 => sLdA 3 v28 h30) (fun v31 h32 => (kB k (fun h33 => sStore 3 r6.1 v31 h33) (fun r35 _ => (kB k (fun h36 => sLdA 3 r6.1 h36) (fun v37 h38 => (Tree.leaf v37 h38)) r35.2)) h32)) h29)) h17)) h15)) h12)) h9)) r6.2)) r3.2)) h)
theorem sp106 (C : CT) (k : Nat) : ds C k c106 (sQ106 C k) = fun e h => (sK106 C k (e 0) h) := by kernel_rfl
def SF106 : SF := fun C k a h => match a with
  | [a0] => sK106 C k a0 h
  | _ => .no
theorem so106 : SOK IP 106 SF106 := ⟨ir106, ip106, by kernel_rfl, fun C k a h => by
  unfold SF106
  split
  · exact .inr ⟨by kernel_rfl, Eq.symm (Eq.trans (congrFun (congrFun (sp106 C k) _) h) rfl)⟩
  · exact .inl rfl⟩
theorem ip107 : IP 107 = some ir107 := rfl
def sQ107 (C : Nat → List S → SH → Tree) (k : Nat) : X → ES → SH → Tree := QrS k rs107
def sT107_1 (C : CT) (k : Nat) (x0 x1 x15 x23 : S) (h : SH) : Tree := (kB k (fun h1 => sPick x15 (S.b true) x23 (SH.pc h1)) (fun v2 h3 => (kS v2 (fun h4 => (Tree.leaf (S.b false) h4)) (fun h5 => (kK (C 165 [x0, x1] h5) (fun v13 h14 => (Tree.leaf v13 h14)))) h3)) h)
def sT107_2 (C : CT) (k : Nat) (x0 x1 x15 x19 x20 : S) (h : SH) : Tree := (kB k (gd x19 true uS (fun h1 => sLd1 x20 h1)) (fun v2 h3 => (kB k (gd x19 true uS (fun h4 => sBin .neq v2 (S.i .i64 (.lit 7)) (SH.pc h4))) (fun v5 h6 => (kB k (gd x15 false uS (fun h7 => sPick x19 v5 (S.b false) (SH.pc h7))) (fun v8 h9 => (sT107_1 C k x0 x1 x15 v8 h9)) h6)) h3)) h)
def sT107_3 (C : CT) (k : Nat) (x0 x1 x5 x15 x17 : S) (h : SH) : Tree := (kB k (gd x15 false uS (fun h1 => sBin .neq x17 (S.i .i64 (.lit 2)) (SH.pc h1))) (fun v2 h3 => (kB k (gd x15 false uS (fun h4 => Res.ok v2)) (fun v5 h6 => (kB k (gd v5 true uS (fun h7 => sFa 0 x5)) (fun v8 h9 => (sT107_2 C k x0 x1 x15 v5 v8 h9)) h6)) h3)) h)
def sT107_4 (C : CT) (k : Nat) (x0 x1 x11 x12 : S) (h : SH) : Tree := (kB k (fun h1 => sZero [(.i .i64 0), (.i .i64 0), (.i .i64 0), (.i .i64 0), (.i .i64 0), (.i .u32 0), (.i .i64 0), (.b false), (.b false), (.i .i64 0), (.i .u32 0)] h1) (fun r3 _ => (kB k (fun h4 => sStore 11 r3.1 x11 h4) (fun r6 _ => (kB k (fun h11 => sUn .not x12 (SH.pc h11)) (fun v12 h13 => (kB k (gd v12 false uS (fun h16 => sFa 0 r3.1)) (fun v17 h18 => (kB k (gd v12 false uS (fun h19 => sLd1 v17 h19)) (fun v20 h21 => (sT107_3 C k x0 x1 r3.1 v12 v20 h21)) h18)) h13)) r6.2)) r3.2)) h)
def sK107 (C : CT) (k : Nat) (x0 x1 : S) (h : SH) : Tree := (kK (C 164 [x0, x1] h) (fun v8 h9 => (kB k (fun h12 => sExt v8 0) (fun v13 h14 => (kB k (fun h15 => sExt v8 1) (fun v16 h17 => (sT107_4 C k x0 x1 v13 v16 h17)) h14)) h9)))
theorem sp107 (C : CT) (k : Nat) : ds C k c107 (sQ107 C k) = fun e h => (sK107 C k (e 0) (e 1) h) := by kernel_rfl
def SF107 : SF := fun C k a h => match a with
  | [a0, a1] => sK107 C k a0 a1 h
  | _ => .no
theorem so107 : SOK IP 107 SF107 := ⟨ir107, ip107, by kernel_rfl, fun C k a h => by
  unfold SF107
  split
  · exact .inr ⟨by kernel_rfl, Eq.symm (Eq.trans (congrFun (congrFun (sp107 C k) _) h) rfl)⟩
  · exact .inl rfl⟩
theorem ip109 : IP 109 = some ir109 := rfl
def sQ109 (C : Nat → List S → SH → Tree) (k : Nat) : X → ES → SH → Tree := QrS k rs109
def sT109_1 (C : CT) (k : Nat) (x12 x13 x14 : S) (h : SH) : Tree := (kB k (fun h1 => sIa 1 x12 x13 (SH.pc h1)) (fun v2 h3 => (kB k (fun h4 => sStore 1 v2 x14 h4) (fun r6 _ => (Tree.leaf (S.tup []) r6.2)) h3)) h)
def sT109_2 (C : CT) (k : Nat) (x0 x1 x2 : S) (h : SH) : Tree := (kB k (fun h3 => sNilc x0) (fun v4 h5 => (kB k (fun h6 => sFa 0 v4) (fun v7 h8 => (kB k (fun h9 => sLd1 v7 h9) (fun v10 h11 => (sT109_1 C k v10 x1 x2 h11)) h8)) h5)) h)
def sK109 (C : CT) (k : Nat) (x0 x1 x2 : S) (h : SH) : Tree := (kK (C 166 [x0, x1] h) (fun v6 h7 => (kS v6 (fun h8 => (sT109_2 C k x0 x1 x2 h8)) (fun h9 => (Tree.leaf (S.tup []) h9)) h7)))
theorem sp109 (C : CT) (k : Nat) : ds C k c109 (sQ109 C k) = fun e h => (sK109 C k (e 0) (e 1) (e 2) h) := by kernel_rfl
def SF109 : SF := fun C k a h => match a with
  | [a0, a1, a2] => sK109 C k a0 a1 a2 h
  | _ => .no
theorem so109 : SOK IP 109 SF109 := ⟨ir109, ip109, by kernel_rfl, fun C k a h => by
  unfold SF109
  split
  · exact .inr ⟨by kernel_rfl, Eq.symm (Eq.trans (congrFun (congrFun (sp109 C k) _) h) rfl)⟩
  · exact .inl rfl⟩
theorem ip111 : IP 111 = some ir111 := rfl
def sQ111 (C : Nat → List S → SH → Tree) (k : Nat) : X → ES → SH → Tree := QrS k rs111
def sT111_1 (C : CT) (k : Nat) (x6 x10 : S) (h : SH) : Tree := (kB k (fun h1 => sStore 9 x6 x10 h1) (fun r3 _ => (kB k (fun h4 => sLdA 9 x6 h4) (fun v5 h6 => (Tree.leaf v5 h6)) r3.2)) h)
def sK111 (C : CT) (k : Nat) (x0 x1 x2 : S) (h : SH) : Tree := (kB k (fun h1 => sBox x0 h1) (fun r3 _ => (kB k (fun h4 => sBox x1 h4) (fun r6 _ => (kB k (fun h7 => sZero [(.i .i64 0), (.i .i64 0), (.i .u64 0), (.i .u64 0), (.i .u64 0), (.i .u64 0), (.i .i64 0), (.b false), (.b false)] h7) (fun r9 _ => (kB k (fun h10 => sLdA 2 r3.1 h10) (fun v11 h12 => (kB k (fun h13 => sLdA 3 r6.1 h13) (fun v14 h15 => (kB k (fun h18 => sBld [(.i .i64 0), (.i .i64 0), (.i .u64 0), (.i .u64 0), (.i .u64 0), (.i .u64 0), (.i .i64 0), (.b false), (.b false)] [(0, 2, v11), (2, 3, v14), (5, 1, x2), (6, 1, (S.i .i64 (.lit 1))), (7, 1, (S.b true))]) (fun v19 h20 => (sT111_1 C k r9.1 v19 h20)) h15)) h12)) r9.2)) r6.2)) r3.2)) h)
theorem sp111 (C : CT) (k : Nat) : ds C k c111 (sQ111 C k) = fun e h => (sK111 C k (e 0) (e 1) (e 2) h) := by kernel_rfl
def SF111 : SF := fun C k a h => match a with
  | [a0, a1, a2] => sK111 C k a0 a1 a2 h
  | _ => .no
theorem so111 : SOK IP 111 SF111 := ⟨ir111, ip111, by kernel_rfl, fun C k a h => by
  unfold SF111
  split
  · exact .inr ⟨by kernel_rfl, Eq.symm (Eq.trans (congrFun (congrFun (sp111 C k) _) h) rfl)⟩
  · exact .inl rfl⟩
theorem ip122 : IP 122 = some ir122 := rfl
def sQ122 (C : Nat → List S → SH → Tree) (k : Nat) : X → ES → SH → Tree := QrS k rs122
def sK122 (C : CT) (k : Nat) (x0 : S) (h : SH) : Tree := (kB k (fun h5 => sEqz false .s x0 S.nsl (SH.pc h5)) (fun v6 h7 => (kS v6 (fun h8 => (Tree.leaf S.nsl h8)) (fun h9 => (kB k (fun h12 => sNewSl 0 [] [] h12) (fun r14 _ => (kB k (fun h17 => sApp 2 16 r14.1 x0 h17) (fun r19 _ => (Tree.leaf r19.1 r19.2)) r14.2)) h9)) h7)) h)
theorem sp122 (C : CT) (k : Nat) : ds C k c122 (sQ122 C k) = fun e h => (sK122 C k (e 0) h) := by kernel_rfl
def SF122 : SF := fun C k a h => match a with
  | [a0] => sK122 C k a0 h
  | _ => .no
theorem so122 : SOK IP 122 SF122 := ⟨ir122, ip122, by kernel_rfl, fun C k a h => by
  unfold SF122
  split
  · exact .inr ⟨by kernel_rfl, Eq.symm (Eq.trans (congrFun (congrFun (sp122 C k) _) h) rfl)⟩
  · exact .inl rfl⟩
theorem ip126 : IP 126 = some ir126 := rfl
def sQ126 (C : Nat → List S → SH → Tree) (k : Nat) : X → ES → SH → Tree := QrS k rs126
def sK126 (C : CT) (k : Nat) (x0 x1 x2 : S) (h : SH) : Tree := (kB k (fun h1 => sBox x0 h1) (fun r3 _ => (kB k (fun h6 => sLdA 2 r3.1 h6) (fun v7 h8 => (kK (C 180 [v7] h8) (fun v10 h11 => (kB k (fun h12 => sUn .not v10 (SH.pc h12)) (fun v13 h14 => (kS v13 (fun h15 => (Tree.leaf x1 h15)) (fun h16 => (kB k (fun h23 => sLdA 2 r3.1 h23) (fun v24 h25 => (kK (C 181 [v24] h25) (fun v27 h28 => (kB k (fun h29 => sBin .andNot x1 v27 (SH.pc h29)) (fun v30 h31 => (kB k (fun h34 => sLdA 2 r3.1 h34) (fun v35 h36 => (kK (C 182 [v35] h36) (fun v38 h39 => (kB k (fun h40 => sMin x2 [v38] (SH.pc h40)) (fun v41 h42 => (kB k (fun h43 => sFa 0 r3.1) (fun v44 h45 => (kB k (fun h46 => sLd1 v44 h46) (fun v47 h48 => (kB k (fun h49 => sBin .shl v41 v47 (SH.pc h49)) (fun v50 h51 => (kB k (fun h52 => sBin .or v30 v50 (SH.pc h52)) (fun v53 h54 => (kC (stdyS true 2 r3.1 h25 h28) (kC (stdyS false 1 v44 h25 h28) (kC (stdyS false 1 v44 h36 h39) (Tree.leaf v53 h54))))) h51)) h48)) h45)) h42)) h39)))) h31)) h28)))) h16)) h14)) h11)))) r3.2)) h)
theorem sp126 (C : CT) (k : Nat) : ds C k c126 (sQ126 C k) = fun e h => (sK126 C k (e 0) (e 1) (e 2) h) := by kernel_rfl
def SF126 : SF := fun C k a h => match a with
  | [a0, a1, a2] => sK126 C k a0 a1 a2 h
  | _ => .no
theorem so126 : SOK IP 126 SF126 := ⟨ir126, ip126, by kernel_rfl, fun C k a h => by
  unfold SF126
  split
  · exact .inr ⟨by kernel_rfl, Eq.symm (Eq.trans (congrFun (congrFun (sp126 C k) _) h) rfl)⟩
  · exact .inl rfl⟩
theorem ip127 : IP 127 = some ir127 := rfl
def sQ127 (C : Nat → List S → SH → Tree) (k : Nat) : X → ES → SH → Tree := QrS k rs127
def sT127_1 (C : CT) (k : Nat) (x7 x14 : S) (h : SH) : Tree := (kB k (fun h1 => sBin .add x7 x14 (SH.pc h1)) (fun v2 h3 => (Tree.leaf v2 h3)) h)
def sT127_2 (C : CT) (k : Nat) (x7 x8 x11 : S) (h : SH) : Tree := (kB k (fun h1 => sBin .rem x8 x11 (SH.pc h1)) (fun v2 h3 => (kB k (fun h4 => sCvi .i64 v2 (SH.pc h4)) (fun v5 h6 => (kB k (fun h7 => sBin .mul v5 (S.i .i64 (.lit 4)) (SH.pc h7)) (fun v8 h9 => (sT127_1 C k x7 v8 h9)) h6)) h3)) h)
def sT127_3 (C : CT) (k : Nat) (x2 x7 x8 : S) (h : SH) : Tree := (kB k (fun h1 => sFa 1 x2) (fun v2 h3 => (kB k (fun h4 => sLd1 v2 h4) (fun v5 h6 => (kB k (fun h7 => sCvi .u64 v5 (SH.pc h7)) (fun v8 h9 => (sT127_2 C k x7 x8 v8 h9)) h6)) h3)) h)
def sK127 (C : CT) (k : Nat) (x0 x1 : S) (h : SH) : Tree := (kB k (fun h1 => sBox x0 h1) (fun r3 _ => (kB k (fun h6 => sFa 0 r3.1) (fun v7 h8 => (kB k (fun h9 => sLd1 v7 h9) (fun v10 h11 => (kB k (fun h12 => sBin .add v10 (S.i .i64 (.lit 1)) (SH.pc h12)) (fun v13 h14 => (sT127_3 C k r3.1 v13 x1 h14)) h11)) h8)) r3.2)) h)
theorem sp127 (C : CT) (k : Nat) : ds C k c127 (sQ127 C k) = fun e h => (sK127 C k (e 0) (e 1) h) := by kernel_rfl
def SF127 : SF := fun C k a h => match a with
  | [a0, a1] => sK127 C k a0 a1 h
  | _ => .no
theorem so127 : SOK IP 127 SF127 := ⟨ir127, ip127, by kernel_rfl, fun C k a h => by
  unfold SF127
  split
  · exact .inr ⟨by kernel_rfl, Eq.symm (Eq.trans (congrFun (congrFun (sp127 C k) _) h) rfl)⟩
  · exact .inl rfl⟩
theorem ip140 : IP 140 = some ir140 := rfl
def sQ140 (C : Nat → List S → SH → Tree) (k : Nat) : X → ES → SH → Tree := QrS k rs140
def sT140_1 (C : CT) (k : Nat) (x6 : S) (h : SH) : Tree := (kB k (fun h1 => sBox x6 h1) (fun r3 _ => (Tree.leaf r3.1 r3.2)) h)
def sK140 (C : CT) (k : Nat) (x0 : S) (h : SH) : Tree := (kB k (fun h5 => sMax x0 [(S.i .i64 (.lit 0))] (SH.pc h5)) (fun v6 h7 => (kB k (fun h8 => sMin v6 [(S.i .i64 (.lit 64))] (SH.pc h8)) (fun v9 h10 => (kB k (fun h11 => sBld [(.i .i64 0), .nsl] [(0, 1, v9)]) (fun v12 h13 => (sT140_1 C k v12 h13)) h10)) h7)) h)
theorem sp140 (C : CT) (k : Nat) : ds C k c140 (sQ140 C k) = fun e h => (sK140 C k (e 0) h) := by kernel_rfl
def SF140 : SF := fun C k a h => match a with
  | [a0] => sK140 C k a0 h
  | _ => .no
theorem so140 : SOK IP 140 SF140 := ⟨ir140, ip140, by kernel_rfl, fun C k a h => by
  unfold SF140
  split
  · exact .inr ⟨by kernel_rfl, Eq.symm (Eq.trans (congrFun (congrFun (sp140 C k) _) h) rfl)⟩
  · exact .inl rfl⟩
theorem ip141 : IP 141 = some ir141 := rfl
def sQ141 (C : Nat → List S → SH → Tree) (k : Nat) : X → ES → SH → Tree := QrS k rs141
def sT141_1 (C : CT) (k : Nat) (x6 : S) (h : SH) : Tree := (kB k (fun h1 => sBox x6 h1) (fun r3 _ => (Tree.leaf r3.1 r3.2)) h)
def sK141 (C : CT) (k : Nat) (x0 : S) (h : SH) : Tree := (kB k (fun h5 => sMax x0 [(S.i .i64 (.lit 0))] (SH.pc h5)) (fun v6 h7 => (kB k (fun h8 => sMin v6 [(S.i .i64 (.lit 8))] (SH.pc h8)) (fun v9 h10 => (kB k (fun h11 => sBld [(.i .i64 0), .nsl, (.b false), (.i .i64 0), (.i .i64 0), (.i .i64 0), (.i .i64 0), (.i .i64 0), (.i .u32 0), (.i .i64 0), (.b false), (.b false), (.i .i64 0), (.i .u32 0), (.i .i64 0), (.i .i64 0)] [(0, 1, v9)]) (fun v12 h13 => (sT141_1 C k v12 h13)) h10)) h7)) h)
theorem sp141 (C : CT) (k : Nat) : ds C k c141 (sQ141 C k) = fun e h => (sK141 C k (e 0) h) := by kernel_rfl
def SF141 : SF := fun C k a h => match a with
  | [a0] => sK141 C k a0 h
  | _ => .no
theorem so141 : SOK IP 141 SF141 := ⟨ir141, ip141, by kernel_rfl, fun C k a h => by
  unfold SF141
  split
  · exact .inr ⟨by kernel_rfl, Eq.symm (Eq.trans (congrFun (congrFun (sp141 C k) _) h) rfl)⟩
  · exact .inl rfl⟩
theorem ip142 : IP 142 = some ir142 := rfl
def sQ142 (C : Nat → List S → SH → Tree) (k : Nat) : X → ES → SH → Tree := QrS k rs142
def sT142_1 (C : CT) (k : Nat) (x36 x39 : S) (h : SH) : Tree := (kB k (fun h1 => sPick x36 x39 (S.b false) (SH.pc h1)) (fun v2 h3 => (Tree.leaf v2 h3)) h)
def sT142_2 (C : CT) (k : Nat) (x1 x36 : S) (h : SH) : Tree := (kB k (gd x36 true uS (fun h1 => sFa 9 x1)) (fun v2 h3 => (kB k (gd x36 true uS (fun h4 => sLd1 v2 h4)) (fun v5 h6 => (kK (kG x36 true (fun h7 => C 193 [v5, (S.i .i64 (.lit 65535))] h7) h6) (fun v8 h9 => (sT142_1 C k x36 v8 h9)))) h3)) h)
def sT142_3 (C : CT) (k : Nat) (x1 x31 x32 : S) (h : SH) : Tree := (kB k (gd x31 true uS (fun h1 => sLd1 x32 h1)) (fun v2 h3 => (kK (kG x31 true (fun h4 => C 193 [v2, (S.i .i64 (.lit 15))] h4) h3) (fun v5 h6 => (kB k (fun h7 => sPick x31 v5 (S.b false) (SH.pc h7)) (fun v8 h9 => (sT142_2 C k x1 v8 h9)) h6)))) h)
def sT142_4 (C : CT) (k : Nat) (x1 x26 x28 : S) (h : SH) : Tree := (kK (kG x26 true (fun h1 => C 193 [x28, (S.i .i64 (.lit 16777215))] h1) h) (fun v2 h3 => (kB k (fun h4 => sPick x26 v2 (S.b false) (SH.pc h4)) (fun v5 h6 => (kB k (gd v5 true uS (fun h9 => sFa 6 x1)) (fun v10 h11 => (sT142_3 C k x1 v5 v10 h11)) h6)) h3)))
def sT142_5 (C : CT) (k : Nat) (x1 x21 x24 : S) (h : SH) : Tree := (kB k (fun h1 => sPick x21 x24 (S.b false) (SH.pc h1)) (fun v2 h3 => (kB k (gd v2 true uS (fun h6 => sFa 4 x1)) (fun v7 h8 => (kB k (gd v2 true uS (fun h9 => sLd1 v7 h9)) (fun v10 h11 => (sT142_4 C k x1 v2 v10 h11)) h8)) h3)) h)
def sT142_6 (C : CT) (k : Nat) (x1 x21 : S) (h : SH) : Tree := (kB k (gd x21 true uS (fun h1 => sFa 3 x1)) (fun v2 h3 => (kB k (gd x21 true uS (fun h4 => sLd1 v2 h4)) (fun v5 h6 => (kK (kG x21 true (fun h7 => C 193 [v5, (S.i .i64 (.lit 15))] h7) h6) (fun v8 h9 => (sT142_5 C k x1 x21 v8 h9)))) h3)) h)
def sT142_7 (C : CT) (k : Nat) (x1 x16 x17 : S) (h : SH) : Tree := (kB k (gd x16 true uS (fun h1 => sLd1 x17 h1)) (fun v2 h3 => (kK (kG x16 true (fun h4 => C 193 [v2, (S.i .i64 (.lit 3))] h4) h3) (fun v5 h6 => (kB k (fun h7 => sPick x16 v5 (S.b false) (SH.pc h7)) (fun v8 h9 => (sT142_6 C k x1 v8 h9)) h6)))) h)
def sT142_8 (C : CT) (k : Nat) (x1 x11 x13 : S) (h : SH) : Tree := (kK (kG x11 true (fun h1 => C 193 [x13, (S.i .i64 (.lit 3))] h1) h) (fun v2 h3 => (kB k (fun h4 => sPick x11 v2 (S.b false) (SH.pc h4)) (fun v5 h6 => (kB k (gd v5 true uS (fun h9 => sFa 2 x1)) (fun v10 h11 => (sT142_7 C k x1 v5 v10 h11)) h6)) h3)))
def sT142_9 (C : CT) (k : Nat) (x1 x6 x9 : S) (h : SH) : Tree := (kB k (fun h1 => sPick x6 x9 (S.b false) (SH.pc h1)) (fun v2 h3 => (kB k (gd v2 true uS (fun h6 => sFa 1 x1)) (fun v7 h8 => (kB k (gd v2 true uS (fun h9 => sLd1 v7 h9)) (fun v10 h11 => (sT142_8 C k x1 v2 v10 h11)) h8)) h3)) h)
def sT142_10 (C : CT) (k : Nat) (x1 x6 : S) (h : SH) : Tree := (kB k (gd x6 true uS (fun h1 => sFa 0 x1)) (fun v2 h3 => (kB k (gd x6 true uS (fun h4 => sLd1 v2 h4)) (fun v5 h6 => (kB k (gd x6 true uS (fun h7 => sBin .leq v5 (S.i .i64 (.lit 10)) (SH.pc h7))) (fun v8 h9 => (sT142_9 C k x1 x6 v8 h9)) h6)) h3)) h)
def sK142 (C : CT) (k : Nat) (x0 : S) (h : SH) : Tree := (kB k (fun h1 => sBox x0 h1) (fun r3 _ => (kB k (fun h6 => sFa 0 r3.1) (fun v7 h8 => (kB k (fun h9 => sLd1 v7 h9) (fun v10 h11 => (kB k (fun h12 => sBin .geq v10 (S.i .i64 (.lit 1)) (SH.pc h12)) (fun v13 h14 => (sT142_10 C k r3.1 v13 h14)) h11)) h8)) r3.2)) h)
theorem sp142 (C : CT) (k : Nat) : ds C k c142 (sQ142 C k) = fun e h => (sK142 C k (e 0) h) := by kernel_rfl
def SF142 : SF := fun C k a h => match a with
  | [a0] => sK142 C k a0 h
  | _ => .no
theorem so142 : SOK IP 142 SF142 := ⟨ir142, ip142, by kernel_rfl, fun C k a h => by
  unfold SF142
  split
  · exact .inr ⟨by kernel_rfl, Eq.symm (Eq.trans (congrFun (congrFun (sp142 C k) _) h) rfl)⟩
  · exact .inl rfl⟩
theorem ip143 : IP 143 = some ir143 := rfl
def sQ143 (C : Nat → List S → SH → Tree) (k : Nat) : X → ES → SH → Tree := QrS k rs143
def sK143 (C : CT) (k : Nat) (x0 : S) (h : SH) : Tree := (kS x0 (fun h5 => (Tree.leaf (S.i .u64 (.lit 1)) h5)) (fun h6 => (Tree.leaf (S.i .u64 (.lit 0)) h6)) h)
theorem sp143 (C : CT) (k : Nat) : ds C k c143 (sQ143 C k) = fun e h => (sK143 C k (e 0) h) := by kernel_rfl
def SF143 : SF := fun C k a h => match a with
  | [a0] => sK143 C k a0 h
  | _ => .no
theorem so143 : SOK IP 143 SF143 := ⟨ir143, ip143, by kernel_rfl, fun C k a h => by
  unfold SF143
  split
  · exact .inr ⟨by kernel_rfl, Eq.symm (Eq.trans (congrFun (congrFun (sp143 C k) _) h) rfl)⟩
  · exact .inl rfl⟩
theorem ip144 : IP 144 = some ir144 := rfl
def sQ144 (C : Nat → List S → SH → Tree) (k : Nat) : X → ES → SH → Tree := QrS k rs144
def sT144_1 (C : CT) (k : Nat) (x12 x13 : S) (h : SH) : Tree := (kB k (fun h1 => sIa 1 x12 x13 (SH.pc h1)) (fun v2 h3 => (kB k (fun h4 => sLd1 v2 h4) (fun v5 h6 => (Tree.leaf v5 h6)) h3)) h)
def sK144 (C : CT) (k : Nat) (x0 x1 : S) (h : SH) : Tree := (kK (C 166 [x0, x1] h) (fun v8 h9 => (kB k (fun h10 => sUn .not v8 (SH.pc h10)) (fun v11 h12 => (kS v11 (fun h13 => (Tree.leaf (S.i .u64 (.lit 0)) h13)) (fun h14 => (kB k (fun h19 => sNilc x0) (fun v20 h21 => (kB k (fun h22 => sFa 0 v20) (fun v23 h24 => (kB k (fun h25 => sLd1 v23 h25) (fun v26 h27 => (sT144_1 C k v26 x1 h27)) h24)) h21)) h14)) h12)) h9)))
theorem sp144 (C : CT) (k : Nat) : ds C k c144 (sQ144 C k) = fun e h => (sK144 C k (e 0) (e 1) h) := by kernel_rfl
def SF144 : SF := fun C k a h => match a with
  | [a0, a1] => sK144 C k a0 a1 h
  | _ => .no
theorem so144 : SOK IP 144 SF144 := ⟨ir144, ip144, by kernel_rfl, fun C k a h => by
  unfold SF144
  split
  · exact .inr ⟨by kernel_rfl, Eq.symm (Eq.trans (congrFun (congrFun (sp144 C k) _) h) rfl)⟩
  · exact .inl rfl⟩
theorem ip145 : IP 145 = some ir145 := rfl
def sQ145 (C : Nat → List S → SH → Tree) (k : Nat) : X → ES → SH → Tree := QrS k rs145
def sK145 (C : CT) (k : Nat) (x0 : S) (h : SH) : Tree := (kB k (fun h1 => sBox x0 h1) (fun r3 _ => (kB k (fun h6 => sLdA 2 r3.1 h6) (fun v7 h8 => (kK (C 58 [v7] h8) (fun v10 h11 => (kB k (fun h12 => sUn .not v10 (SH.pc h12)) (fun v13 h14 => (kS v13 (fun h15 => (Tree.leaf (S.i .i64 (.lit (-1))) h15)) (fun h16 => (kB k (fun h19 => sFa 0 r3.1) (fun v20 h21 => (kB k (fun h22 => sLd1 v20 h22) (fun v23 h24 => (Tree.leaf v23 h24)) h21)) h16)) h14)) h11)))) r3.2)) h)
theorem sp145 (C : CT) (k : Nat) : ds C k c145 (sQ145 C k) = fun e h => (sK145 C k (e 0) h) := by kernel_rfl
def SF145 : SF := fun C k a h => match a with
  | [a0] => sK145 C k a0 h
  | _ => .no
theorem so145 : SOK IP 145 SF145 := ⟨ir145, ip145, by kernel_rfl, fun C k a h => by
  unfold SF145
  split
  · exact .inr ⟨by kernel_rfl, Eq.symm (Eq.trans (congrFun (congrFun (sp145 C k) _) h) rfl)⟩
  · exact .inl rfl⟩
theorem ip146 : IP 146 = some ir146 := rfl
def sQ146 (C : Nat → List S → SH → Tree) (k : Nat) : X → ES → SH → Tree := QrS k rs146
def sQ146_1 (C : CT) (k : Nat) : X → ES → SH → Tree := (sQ146 C k)
def sK146_1 (C : CT) (k : Nat) (x2 x4 : S) (h : SH) : Tree := (kB k (fun h1 => sLdA 9 x2 h1) (fun v2 h3 => (kB k (fun h4 => sStore 9 x4 v2 h4) (fun r6 _ => (kB k (fun h7 => sLdA 9 x4 h7) (fun v8 h9 => (Tree.leaf v8 h9)) r6.2)) h3)) h)
def sJ146_1 (C : CT) (k : Nat) : ES → SH → Tree := fun e h => (sK146_1 C k (e 2) (e 4) h)
theorem sp146_1 (C : CT) (k : Nat) : ds C k c146_1 (sQ146_1 C k) = (sJ146_1 C k) := by kernel_rfl
def sT146_2 (C : CT) (k : Nat) (x2 x4 x27 : S) (h : SH) : Tree := (kB k (gd x27 false uS (fun h1 => sFa 7 x2)) (fun v2 h3 => (kB k (gd x27 false uS (fun h4 => sLd1 v2 h4)) (fun v5 h6 => (kB k (fun h7 => sPick x27 (S.b true) v5 (SH.pc h7)) (fun v8 h9 => (kS v8 (fun h12 => (kB k (fun h14 => sFa 8 x2) (fun v15 h16 => (kB k (fun h17 => sStore 1 v15 (S.b true) h17) (fun r19 _ => (sK146_1 C k x2 x4 r19.2)) h16)) h12)) (fun h13 => (kB k (fun h20 => sFa 6 x2) (fun v21 h22 => (kB k (fun h23 => sStore 1 v21 (S.i .i64 (.lit 0)) h23) (fun r25 _ => (sK146_1 C k x2 x4 r25.2)) h22)) h13)) h9)) h6)) h3)) h)
def sT146_3 (C : CT) (k : Nat) (x1 x2 x4 : S) (h : SH) : Tree := (kB k (fun h3 => sFa 5 x2) (fun v4 h5 => (kB k (fun h6 => sLd1 v4 h6) (fun v7 h8 => (kB k (fun h9 => sBin .lss x1 v7 (SH.pc h9)) (fun v10 h11 => (sT146_2 C k x2 x4 v10 h11)) h8)) h5)) h)
def sT146_4 (C : CT) (k : Nat) (x1 x2 x4 : S) (h : SH) : Tree := (kB k (fun h3 => sFa 5 x2) (fun v4 h5 => (kB k (fun h6 => sLd1 v4 h6) (fun v7 h8 => (kB k (fun h9 => sBin .eql x1 v7 (SH.pc h9)) (fun v10 h11 => (kS v10 (fun h14 => (kB k (fun h16 => sFa 6 x2) (fun v17 h18 => (kB k (fun h19 => sStore 1 v17 (S.i .i64 (.lit 2)) h19) (fun r21 _ => (sK146_1 C k x2 x4 r21.2)) h18)) h14)) (fun h15 => (sT146_3 C k x1 x2 x4 h15)) h11)) h8)) h5)) h)
def sT146_5 (C : CT) (k : Nat) (x1 x2 x4 x11 : S) (h : SH) : Tree := (kB k (gd x11 true uS (fun h1 => sFa 7 x2)) (fun v2 h3 => (kB k (gd x11 true uS (fun h4 => sLd1 v2 h4)) (fun v5 h6 => (kB k (fun h7 => sPick x11 v5 (S.b false) (SH.pc h7)) (fun v8 h9 => (kS v8 (fun h12 => (kB k (fun h14 => sFa 6 x2) (fun v15 h16 => (kB k (fun h17 => sStore 1 v15 (S.i .i64 (.lit 3)) h17) (fun r19 _ => (sK146_1 C k x2 x4 r19.2)) h16)) h12)) (fun h13 => (sT146_4 C k x1 x2 x4 h13)) h9)) h6)) h3)) h)
def sK146 (C : CT) (k : Nat) (x0 x1 : S) (h : SH) : Tree := (kB k (fun h1 => sBox x0 h1) (fun r3 _ => (kB k (fun h4 => sZero [(.i .i64 0), (.i .i64 0), (.i .u64 0), (.i .u64 0), (.i .u64 0), (.i .u64 0), (.i .i64 0), (.b false), (.b false)] h4) (fun r6 _ => (kB k (fun h9 => sFa 5 r3.1) (fun v10 h11 => (kB k (fun h12 => sLd1 v10 h12) (fun v13 h14 => (kB k (fun h15 => sBin .eql x1 v13 (SH.pc h15)) (fun v16 h17 => (sT146_5 C k x1 r3.1 r6.1 v16 h17)) h14)) h11)) r6.2)) r3.2)) h)
theorem sp146 (C : CT) (k : Nat) : ds C k c146 (sQ146 C k) = fun e h => (sK146 C k (e 0) (e 1) h) := by
  refine Eq.trans (sseq_eq (sseq_eq (sp146_1 C k) rfl) rfl) ?_
  kernel_rfl
def SF146 : SF := fun C k a h => match a with
  | [a0, a1] => sK146 C k a0 a1 h
  | _ => .no
theorem so146 : SOK IP 146 SF146 := ⟨ir146, ip146, by kernel_rfl, fun C k a h => by
  unfold SF146
  split
  · exact .inr ⟨by kernel_rfl, Eq.symm (Eq.trans (congrFun (congrFun (sp146 C k) _) h) rfl)⟩
  · exact .inl rfl⟩
theorem ip147 : IP 147 = some ir147 := rfl
def sQ147 (C : Nat → List S → SH → Tree) (k : Nat) : X → ES → SH → Tree := QrS k rs147
def sK147 (C : CT) (k : Nat) (x0 x1 : S) (h : SH) : Tree := (kB k (fun h1 => sBox x0 h1) (fun r3 _ => (kB k (fun h6 => sLdA 2 r3.1 h6) (fun v7 h8 => (kK (C 58 [v7] h8) (fun v10 h11 => (kB k (fun h12 => sUn .not v10 (SH.pc h12)) (fun v13 h14 => (kS v13 (fun h15 => (Tree.leaf (S.i .i64 (.lit (-1))) h15)) (fun h16 => (kB k (fun h19 => sLdA 2 r3.1 h19) (fun v20 h21 => (kK (C 127 [v20, x1] h21) (fun v25 h26 => (Tree.leaf v25 h26)))) h16)) h14)) h11)))) r3.2)) h)
theorem sp147 (C : CT) (k : Nat) : ds C k c147 (sQ147 C k) = fun e h => (sK147 C k (e 0) (e 1) h) := by kernel_rfl
def SF147 : SF := fun C k a h => match a with
  | [a0, a1] => sK147 C k a0 a1 h
  | _ => .no
theorem so147 : SOK IP 147 SF147 := ⟨ir147, ip147, by kernel_rfl, fun C k a h => by
  unfold SF147
  split
  · exact .inr ⟨by kernel_rfl, Eq.symm (Eq.trans (congrFun (congrFun (sp147 C k) _) h) rfl)⟩
  · exact .inl rfl⟩
theorem ip148 : IP 148 = some ir148 := rfl
def sQ148 (C : Nat → List S → SH → Tree) (k : Nat) : X → ES → SH → Tree := QrS k rs148
def sT148_1 (C : CT) (k : Nat) (x27 x28 x29 : S) (h : SH) : Tree := (kB k (fun h1 => sIa 1 x27 x28 (SH.pc h1)) (fun v2 h3 => (kB k (fun h4 => sStore 1 v2 x29 h4) (fun r6 _ => (Tree.leaf (S.b true) r6.2)) h3)) h)
def sT148_2 (C : CT) (k : Nat) (x0 x1 x2 x3 x13 x20 : S) (h : SH) : Tree := (kB k (gd x13 false uS (fun h1 => Res.ok x2)) (fun v2 h3 => (kB k (gd x13 false uS (fun h4 => sBin .neq x20 v2 (SH.pc h4))) (fun v5 h6 => (kB k (fun h7 => sPick x13 (S.b true) v5 (SH.pc h7)) (fun v8 h9 => (kS v8 (fun h10 => (Tree.leaf (S.b false) h10)) (fun h11 => (kB k (fun h16 => sNilc x0) (fun v17 h18 => (kB k (fun h19 => sFa 0 v17) (fun v20 h21 => (kB k (fun h22 => sLd1 v20 h22) (fun v23 h24 => (sT148_1 C k v23 x1 x3 h24)) h21)) h18)) h11)) h9)) h6)) h3)) h)
def sT148_3 (C : CT) (k : Nat) (x0 x1 x2 x3 x13 x17 : S) (h : SH) : Tree := (kB k (gd x13 false uS (fun h1 => Res.ok x1)) (fun v2 h3 => (kB k (gd x13 false uS (fun h4 => sIa 1 x17 v2 (SH.pc h4))) (fun v5 h6 => (kB k (gd x13 false uS (fun h7 => sLd1 v5 h7)) (fun v8 h9 => (sT148_2 C k x0 x1 x2 x3 x13 v8 h9)) h6)) h3)) h)
def sT148_4 (C : CT) (k : Nat) (x0 x1 x2 x3 x13 x14 : S) (h : SH) : Tree := (kB k (gd x13 false uS (fun h1 => sNilc x14)) (fun v2 h3 => (kB k (gd x13 false uS (fun h4 => sFa 0 v2)) (fun v5 h6 => (kB k (gd x13 false uS (fun h7 => sLd1 v5 h7)) (fun v8 h9 => (sT148_3 C k x0 x1 x2 x3 x13 v8 h9)) h6)) h3)) h)
def sK148 (C : CT) (k : Nat) (x0 x1 x2 x3 : S) (h : SH) : Tree := (kK (C 166 [x0, x1] h) (fun v8 h9 => (kB k (fun h10 => sUn .not v8 (SH.pc h10)) (fun v11 h12 => (kB k (gd v11 false uS (fun h15 => Res.ok x0)) (fun v16 h17 => (sT148_4 C k x0 x1 x2 x3 v11 v16 h17)) h12)) h9)))
theorem sp148 (C : CT) (k : Nat) : ds C k c148 (sQ148 C k) = fun e h => (sK148 C k (e 0) (e 1) (e 2) (e 3) h) := by kernel_rfl
def SF148 : SF := fun C k a h => match a with
  | [a0, a1, a2, a3] => sK148 C k a0 a1 a2 a3 h
  | _ => .no
theorem so148 : SOK IP 148 SF148 := ⟨ir148, ip148, by kernel_rfl, fun C k a h => by
  unfold SF148
  split
  · exact .inr ⟨by kernel_rfl, Eq.symm (Eq.trans (congrFun (congrFun (sp148 C k) _) h) rfl)⟩
  · exact .inl rfl⟩
theorem ip149 : IP 149 = some ir149 := rfl
def sQ149 (C : Nat → List S → SH → Tree) (k : Nat) : X → ES → SH → Tree := QrS k rs149
def sT149_1 (C : CT) (k : Nat) (x21 x22 : S) (h : SH) : Tree := (kB k (fun h1 => sBin .add x21 x22 (SH.pc h1)) (fun v2 h3 => (Tree.leaf v2 h3)) h)
def sT149_2 (C : CT) (k : Nat) (x1 x2 x3 x14 : S) (h : SH) : Tree := (kB k (gd x14 false uS (fun h1 => Res.ok x2)) (fun v2 h3 => (kB k (gd x14 false uS (fun h4 => sBin .geq v2 (S.i .i64 (.lit 3)) (SH.pc h4))) (fun v5 h6 => (kB k (fun h7 => sPick x14 (S.b true) v5 (SH.pc h7)) (fun v8 h9 => (kS v8 (fun h10 => (Tree.leaf (S.i .i64 (.lit (-1))) h10)) (fun h11 => (kB k (fun h14 => sLdA 2 x3 h14) (fun v15 h16 => (kK (C 127 [v15, x1] h16) (fun v20 h21 => (kB k (fun h22 => sBin .add v20 (S.i .i64 (.lit 1)) (SH.pc h22)) (fun v23 h24 => (sT149_1 C k v23 x2 h24)) h21)))) h11)) h9)) h6)) h3)) h)
def sT149_3 (C : CT) (k : Nat) (x1 x2 x3 x10 : S) (h : SH) : Tree := (kB k (gd x10 false uS (fun h1 => Res.ok x2)) (fun v2 h3 => (kB k (gd x10 false uS (fun h4 => sBin .lss v2 (S.i .i64 (.lit 0)) (SH.pc h4))) (fun v5 h6 => (kB k (fun h7 => sPick x10 (S.b true) v5 (SH.pc h7)) (fun v8 h9 => (sT149_2 C k x1 x2 x3 v8 h9)) h6)) h3)) h)
def sK149 (C : CT) (k : Nat) (x0 x1 x2 : S) (h : SH) : Tree := (kB k (fun h1 => sBox x0 h1) (fun r3 _ => (kB k (fun h6 => sLdA 2 r3.1 h6) (fun v7 h8 => (kK (C 58 [v7] h8) (fun v10 h11 => (kB k (fun h12 => sUn .not v10 (SH.pc h12)) (fun v13 h14 => (sT149_3 C k x1 x2 r3.1 v13 h14)) h11)))) r3.2)) h)
theorem sp149 (C : CT) (k : Nat) : ds C k c149 (sQ149 C k) = fun e h => (sK149 C k (e 0) (e 1) (e 2) h) := by kernel_rfl
def SF149 : SF := fun C k a h => match a with
  | [a0, a1, a2] => sK149 C k a0 a1 a2 h
  | _ => .no
theorem so149 : SOK IP 149 SF149 := ⟨ir149, ip149, by kernel_rfl, fun C k a h => by
  unfold SF149
  split
  · exact .inr ⟨by kernel_rfl, Eq.symm (Eq.trans (congrFun (congrFun (sp149 C k) _) h) rfl)⟩
  · exact .inl rfl⟩
theorem ip150 : IP 150 = some ir150 := rfl
def sQ150 (C : Nat → List S → SH → Tree) (k : Nat) : X → ES → SH → Tree := QrS k rs150
def sQ150_1 (C : CT) (k : Nat) : X → ES → SH → Tree := (sQ150 C k)
def sT150_2 (C : CT) (k : Nat) (x92 x96 : S) (h : SH) : Tree := (kB k (fun h1 => sStore 8 x96 x92 h1) (fun r3 _ => (Tree.leaf (S.tup []) r3.2)) h)
def sT150_3 (C : CT) (k : Nat) (x83 x92 x94 : S) (h : SH) : Tree := (kB k (fun h1 => sStore 1 x94 (S.i .i64 (.lit 1)) h1) (fun r3 _ => (kB k (fun h4 => sNilc x83) (fun v5 h6 => (kB k (fun h7 => sFa 10 v5) (fun v8 h9 => (sT150_2 C k x92 v8 h9)) h6)) r3.2)) h)
def sT150_4 (C : CT) (k : Nat) (x82 x83 x87 x91 : S) (h : SH) : Tree := (kK (C 102 [x87, x91] h) (fun v2 h3 => (kB k (fun h4 => sNilc x82) (fun v5 h6 => (kB k (fun h7 => sFa 9 v5) (fun v8 h9 => (sT150_3 C k x83 v2 v8 h9)) h6)) h3)))
def sT150_5 (C : CT) (k : Nat) (x82 x83 x87 x88 : S) (h : SH) : Tree := (kB k (fun h1 => sNilc x88) (fun v2 h3 => (kB k (fun h4 => sFa 4 v2) (fun v5 h6 => (kB k (fun h7 => sLd1 v5 h7) (fun v8 h9 => (sT150_4 C k x82 x83 x87 v8 h9)) h6)) h3)) h)
def sK150_1 (C : CT) (k : Nat) (x0 : S) (h : SH) : Tree := (kB k (fun h7 => sNilc x0) (fun v8 h9 => (kB k (fun h10 => sFa 1 v8) (fun v11 h12 => (kB k (fun h13 => sLdA 2 v11 h13) (fun v14 h15 => (sT150_5 C k x0 x0 v14 x0 h15)) h12)) h9)) h)
def sJ150_1 (C : CT) (k : Nat) : ES → SH → Tree := fun e h => (sK150_1 C k (e 0) h)
theorem sp150_1 (C : CT) (k : Nat) : ds C k c150_1 (sQ150_1 C k) = (sJ150_1 C k) := by kernel_rfl
def sR150_6 (C : CT) (k : Nat) : X → ES → SH → Tree := (QbS 0 (QxS (sJ150_1 C k) (sQ150 C k)))
def sQ150_6 (C : CT) (k : Nat) (g150_6 : S → S → S → SH → Tree) : X → ES → SH → Tree := QxS (fun e h => g150_6 (e 0) (e 22) (e 23) h) (sR150_6 C k)
def sT150_7 (C : CT) (k : Nat) (g150_6 : S → S → S → SH → Tree) (x62 x78 : S) (h : SH) : Tree := (kB k (fun h1 => sNilc x62) (fun v2 h3 => (kB k (fun h4 => sFa 18 v2) (fun v5 h6 => (kB k (fun h7 => sStore 9 v5 x78 h7) (fun r9 _ => (Tree.leaf (S.tup []) r9.2)) h6)) h3)) h)
def sT150_8 (C : CT) (k : Nat) (g150_6 : S → S → S → SH → Tree) (x62 x69 x70 x74 x75 : S) (h : SH) : Tree := (kB k (fun h1 => sIa 1 x74 x75 (SH.pc h1)) (fun v2 h3 => (kB k (fun h4 => sLd1 v2 h4) (fun v5 h6 => (kK (C 111 [x69, x70, v5] h6) (fun v8 h9 => (sT150_7 C k g150_6 x62 v8 h9)))) h3)) h)
def sT150_9 (C : CT) (k : Nat) (g150_6 : S → S → S → SH → Tree) (x3 x62 x69 x70 x71 : S) (h : SH) : Tree := (kB k (fun h1 => sNilc x71) (fun v2 h3 => (kB k (fun h4 => sFa 5 v2) (fun v5 h6 => (kB k (fun h7 => sLd1 v5 h7) (fun v8 h9 => (sT150_8 C k g150_6 x62 x69 x70 v8 x3 h9)) h6)) h3)) h)
def sT150_10 (C : CT) (k : Nat) (g150_6 : S → S → S → SH → Tree) (x0 x3 x6 x62 x66 x67 : S) (h : SH) : Tree := (kB k (fun h1 => sIa 2 x66 x67 (SH.pc h1)) (fun v2 h3 => (kB k (fun h4 => sLdA 2 v2 h4) (fun v5 h6 => (kB k (fun h7 => sLdA 3 x6 h7) (fun v8 h9 => (sT150_9 C k g150_6 x3 x62 v5 v8 x0 h9)) h6)) h3)) h)
def sT150_11 (C : CT) (k : Nat) (g150_6 : S → S → S → SH → Tree) (x0 x3 x6 x56 : S) (h : SH) : Tree := (kB k (fun h1 => sNilc x56) (fun v2 h3 => (kB k (fun h4 => sFa 9 v2) (fun v5 h6 => (kB k (fun h7 => sStore 1 v5 (S.i .i64 (.lit 2)) h7) (fun r9 _ => (kB k (fun h14 => sNilc x0) (fun v15 h16 => (kB k (fun h17 => sFa 3 v15) (fun v18 h19 => (kB k (fun h20 => sLd1 v18 h20) (fun v21 h22 => (sT150_10 C k g150_6 x0 x3 x6 x0 v21 x3 h22)) h19)) h16)) r9.2)) h6)) h3)) h)
def sT150_12 (C : CT) (k : Nat) (g150_6 : S → S → S → SH → Tree) (x0 x3 x50 x53 : S) (h : SH) : Tree := (kB k (fun h1 => sExt x50 1) (fun v2 h3 => (kB k (fun h4 => sZero [(.i .u64 0), (.i .u64 0), (.i .u64 0)] h4) (fun r6 _ => (kB k (fun h7 => sStore 3 r6.1 x53 h7) (fun r9 _ => (kB k (fun h18 => sNilc x0) (fun v19 h20 => (kB k (fun h21 => sFa 27 v19) (fun v22 h23 => (kB k (fun h24 => sStore 1 v22 x3 h24) (fun r26 _ => (sT150_11 C k g150_6 x0 x3 r6.1 x0 r26.2)) h23)) h20)) r9.2)) r6.2)) h3)) h)
def sT150_13 (C : CT) (k : Nat) (g150_6 : S → S → S → SH → Tree) (x0 x3 x4 : S) (h : SH) : Tree := (kB k (fun h1 => sLdA 11 x4 h1) (fun v2 h3 => (kK (C 88 [v2] h3) (fun v5 h6 => (kB k (fun h9 => sExt v5 0) (fun v10 h11 => (sT150_12 C k g150_6 x0 x3 v5 v10 h11)) h6)))) h)
def sT150_14 (C : CT) (k : Nat) (g150_6 : S → S → S → SH → Tree) (x0 x3 x22 x23 x47 x48 : S) (h : SH) : Tree := (kB k (fun h1 => sZero [(.i .i64 0), (.i .i64 0), (.i .i64 0), (.i .i64 0), (.i .i64 0), (.i .u32 0), (.i .i64 0), (.b false), (.b false), (.i .i64 0), (.i .u32 0)] h1) (fun r3 _ => (kB k (fun h4 => sStore 11 r3.1 x47 h4) (fun r6 _ => (kS x48 (fun h11 => (sT150_13 C k g150_6 x0 x3 r3.1 h11)) (fun h12 => (kB k (fun h13 => sBin .add x23 (S.i .i64 (.lit 1)) (SH.pc h13)) (fun v14 h15 => (g150_6 x0 x22 v14 h15)) h12)) r6.2)) r3.2)) h)
def sT150_15 (C : CT) (k : Nat) (g150_6 : S → S → S → SH → Tree) (x0 x3 x22 x23 x44 x45 : S) (h : SH) : Tree := (kK (C 164 [x44, x45] h) (fun v2 h3 => (kB k (fun h6 => sExt v2 0) (fun v7 h8 => (kB k (fun h9 => sExt v2 1) (fun v10 h11 => (sT150_14 C k g150_6 x0 x3 x22 x23 v7 v10 h11)) h8)) h3)))
def sT150_16 (C : CT) (k : Nat) (g150_6 : S → S → S → SH → Tree) (x0 x3 x22 x23 x29 x37 : S) (h : SH) : Tree := (kB k (fun h1 => sNilc x29) (fun v2 h3 => (kB k (fun h4 => sFa 6 v2) (fun v5 h6 => (kB k (fun h7 => sStore 1 v5 x37 h7) (fun r9 _ => (kB k (fun h12 => sNilc x0) (fun v13 h14 => (kB k (fun h15 => sFa 0 v13) (fun v16 h17 => (kB k (fun h18 => sLd1 v16 h18) (fun v19 h20 => (sT150_15 C k g150_6 x0 x3 x22 x23 v19 x3 h20)) h17)) h14)) r9.2)) h6)) h3)) h)
def sT150_17 (C : CT) (k : Nat) (g150_6 : S → S → S → SH → Tree) (x0 x3 x22 x23 x29 x31 x34 : S) (h : SH) : Tree := (kB k (fun h1 => sLd1 x34 h1) (fun v2 h3 => (kB k (fun h4 => sLens v2) (fun v5 h6 => (kB k (fun h7 => sBin .rem x31 v5 (SH.pc h7)) (fun v8 h9 => (sT150_16 C k g150_6 x0 x3 x22 x23 x29 v8 h9)) h6)) h3)) h)
def sL150_6 (C : CT) (k : Nat) (g150_6 : S → S → S → SH → Tree) (x0 x22 x23 : S) (h : SH) : Tree := (kB k (fun h1 => sBin .lss x23 x22 (SH.pc h1)) (fun v2 h3 => (kS v2 (fun h4 => (kB k (fun h8 => sNilc x0) (fun v9 h10 => (kB k (fun h11 => sFa 6 v9) (fun v12 h13 => (kB k (fun h14 => sLd1 v12 h14) (fun v15 h16 => (kB k (fun h23 => sBin .add v15 (S.i .i64 (.lit 1)) (SH.pc h23)) (fun v24 h25 => (kB k (fun h28 => sNilc x0) (fun v29 h30 => (kB k (fun h31 => sFa 3 v29) (fun v32 h33 => (sT150_17 C k g150_6 x0 v15 x22 x23 x0 v24 v32 h33)) h30)) h25)) h16)) h13)) h10)) h4)) (fun h5 => (sK150_1 C k x0 h5)) h3)) h)
theorem sp150_6 (C : CT) (k : Nat) (g150_6 : S → S → S → SH → Tree) : ds C k c150_6 (sQ150_6 C k g150_6) = fun e h => (sL150_6 C k g150_6 (e 0) (e 22) (e 23) h) := by kernel_rfl
def sW150_6 (C : CT) (k : Nat) (x0 x22 x23 : S) (h : SH) : Tree := kFix k (fun (g : S × S × S × Unit → SH → Tree) (x : S × S × S × Unit) h => sL150_6 C k (fun y0 y22 y23 h => g (y0, y22, y23, ()) h) x.1 x.2.1 x.2.2.1 h) (x0, x22, x23, ()) h
theorem sn150_6 (C : CT) (k : Nat) : ∀ g : S × S × S × Unit → SH → Tree, ds C k c150_6 (QxS (fun e h => g ((fun e : ES => ((e 0, e 22, e 23, ()) : S × S × S × Unit)) e) h) (sR150_6 C k)) = fun e h => (fun (g : S × S × S × Unit → SH → Tree) (x : S × S × S × Unit) h => sL150_6 C k (fun y0 y22 y23 h => g (y0, y22, y23, ()) h) x.1 x.2.1 x.2.2.1 h) g ((fun e : ES => ((e 0, e 22, e 23, ()) : S × S × S × Unit)) e) h := fun g => sp150_6 C k (fun y0 y22 y23 h => g (y0, y22, y23, ()) h)
theorem sw150_6 (C : CT) (k : Nat) : ds C k (.loop c150_6) (sR150_6 C k) = fun e h => (sW150_6 C k (e 0) (e 22) (e 23) h) := sloop_eq (fun e : ES => ((e 0, e 22, e 23, ()) : S × S × S × Unit)) (fun (g : S × S × S × Unit → SH → Tree) (x : S × S × S × Unit) h => sL150_6 C k (fun y0 y22 y23 h => g (y0, y22, y23, ()) h) x.1 x.2.1 x.2.2.1 h) (sn150_6 C k)
def sT150_18 (C : CT) (k : Nat) (x0 x21 : S) (h : SH) : Tree := (kB k (fun h1 => sLens x21) (fun v2 h3 => (sW150_6 C k x0 v2 (S.i .i64 (.lit 0)) h3)) h)
def sT150_19 (C : CT) (k : Nat) (x0 : S) (h : SH) : Tree := (kB k (fun h3 => sNilc x0) (fun v4 h5 => (kB k (fun h6 => sFa 3 v4) (fun v7 h8 => (kB k (fun h9 => sLd1 v7 h9) (fun v10 h11 => (sT150_18 C k x0 v10 h11)) h8)) h5)) h)
def sT150_20 (C : CT) (k : Nat) (x0 x2 x14 x16 : S) (h : SH) : Tree := (kB k (fun h1 => sStore 1 x16 x14 h1) (fun r3 _ => (kS x2 (fun h6 => (sT150_19 C k x0 h6)) (fun h7 => (sK150_1 C k x0 h7)) r3.2)) h)
def sK150 (C : CT) (k : Nat) (x0 : S) (h : SH) : Tree := (kB k (fun h3 => sNilc x0) (fun v4 h5 => (kB k (fun h6 => sFa 7 v4) (fun v7 h8 => (kB k (fun h9 => sLd1 v7 h9) (fun v10 h11 => (kB k (fun h18 => sUn .not v10 (SH.pc h18)) (fun v19 h20 => (kB k (fun h21 => sNilc x0) (fun v22 h23 => (kB k (fun h24 => sFa 7 v22) (fun v25 h26 => (sT150_20 C k x0 v10 v19 v25 h26)) h23)) h20)) h11)) h8)) h5)) h)
theorem sp150 (C : CT) (k : Nat) : ds C k c150 (sQ150 C k) = fun e h => (sK150 C k (e 0) h) := by
  refine Eq.trans (sseq_eq (sseq_eq (sseq_eq (sp150_1 C k) (sseq_eq (scond_eq (sseq_eq (sblock_eq (sw150_6 C k)) rfl) rfl) rfl)) rfl) rfl) ?_
  kernel_rfl
def SF150 : SF := fun C k a h => match a with
  | [a0] => sK150 C k a0 h
  | _ => .no
theorem so150 : SOK IP 150 SF150 := ⟨ir150, ip150, by kernel_rfl, fun C k a h => by
  unfold SF150
  split
  · exact .inr ⟨by kernel_rfl, Eq.symm (Eq.trans (congrFun (congrFun (sp150 C k) _) h) rfl)⟩
  · exact .inl rfl⟩
theorem ip151 : IP 151 = some ir151 := rfl
def sQ151 (C : Nat → List S → SH → Tree) (k : Nat) : X → ES → SH → Tree := QrS k rs151
def sT151_1 (C : CT) (k : Nat) (x6 x77 : S) (h : SH) : Tree := (kB k (fun h1 => sLdA 11 x6 h1) (fun v2 h3 => (kK (C 194 [x77, v2] h3) (fun v5 h6 => (Tree.leaf (S.tup []) h6)))) h)
def sT151_2 (C : CT) (k : Nat) (x0 x6 : S) (h : SH) : Tree := (kB k (fun h3 => sNilc x0) (fun v4 h5 => (kB k (fun h6 => sFa 8 v4) (fun v7 h8 => (kB k (fun h9 => sStore 1 v7 (S.b false) h9) (fun r11 _ => (kB k (fun h14 => sNilc x0) (fun v15 h16 => (kB k (fun h17 => sFa 0 v15) (fun v18 h19 => (kB k (fun h20 => sLd1 v18 h20) (fun v21 h22 => (sT151_1 C k x6 v21 h22)) h19)) h16)) r11.2)) h8)) h5)) h)
def sT151_3 (C : CT) (k : Nat) (x0 x6 x66 x69 : S) (h : SH) : Tree := (kB k (fun h1 => sPick x66 x69 (S.b false) (SH.pc h1)) (fun v2 h3 => (kS v2 (fun h4 => (sT151_2 C k x0 x6 h4)) (fun h5 => (Tree.leaf (S.tup []) h5)) h3)) h)
def sT151_4 (C : CT) (k : Nat) (x0 x6 x66 : S) (h : SH) : Tree := (kB k (gd x66 true uS (fun h1 => sFa 0 x6)) (fun v2 h3 => (kB k (gd x66 true uS (fun h4 => sLd1 v2 h4)) (fun v5 h6 => (kB k (gd x66 true uS (fun h7 => sBin .eql v5 (S.i .i64 (.lit 1)) (SH.pc h7))) (fun v8 h9 => (sT151_3 C k x0 x6 x66 v8 h9)) h6)) h3)) h)
def sT151_5 (C : CT) (k : Nat) (x0 x6 x59 : S) (h : SH) : Tree := (kB k (fun h1 => sLdA 11 x6 h1) (fun v2 h3 => (kK (C 194 [x59, v2] h3) (fun v5 h6 => (kB k (fun h9 => sNilc x0) (fun v10 h11 => (kB k (fun h12 => sFa 8 v10) (fun v13 h14 => (kB k (fun h15 => sLd1 v13 h15) (fun v16 h17 => (sT151_4 C k x0 x6 v16 h17)) h14)) h11)) h6)))) h)
def sT151_6 (C : CT) (k : Nat) (x0 x6 x53 x55 : S) (h : SH) : Tree := (kB k (fun h1 => sStore 1 x55 x53 h1) (fun r3 _ => (kB k (fun h6 => sNilc x0) (fun v7 h8 => (kB k (fun h9 => sFa 0 v7) (fun v10 h11 => (kB k (fun h12 => sLd1 v10 h12) (fun v13 h14 => (sT151_5 C k x0 x6 v13 h14)) h11)) h8)) r3.2)) h)
def sT151_7 (C : CT) (k : Nat) (x0 x6 x49 x52 : S) (h : SH) : Tree := (kB k (fun h1 => sBin .add x52 (S.i .i64 (.lit 1)) (SH.pc h1)) (fun v2 h3 => (kB k (fun h4 => sNilc x49) (fun v5 h6 => (kB k (fun h7 => sFa 28 v5) (fun v8 h9 => (sT151_6 C k x0 x6 v2 v8 h9)) h6)) h3)) h)
def sT151_8 (C : CT) (k : Nat) (x0 x38 x45 : S) (h : SH) : Tree := (kB k (fun h1 => sExt x38 1) (fun v2 h3 => (kB k (fun h4 => sZero [(.i .i64 0), (.i .i64 0), (.i .i64 0), (.i .i64 0), (.i .i64 0), (.i .u32 0), (.i .i64 0), (.b false), (.b false), (.i .i64 0), (.i .u32 0)] h4) (fun r6 _ => (kB k (fun h7 => sStore 11 r6.1 x45 h7) (fun r9 _ => (kB k (fun h14 => sBin .neq v2 (S.i .i64 (.lit 0)) (SH.pc h14)) (fun v15 h16 => (kS v15 (fun h17 => (Tree.leaf (S.tup []) h17)) (fun h18 => (kB k (fun h21 => sNilc x0) (fun v22 h23 => (kB k (fun h24 => sFa 28 v22) (fun v25 h26 => (kB k (fun h27 => sLd1 v25 h27) (fun v28 h29 => (sT151_7 C k x0 r6.1 x0 v28 h29)) h26)) h23)) h18)) h16)) r9.2)) r6.2)) h3)) h)
def sT151_9 (C : CT) (k : Nat) (x0 x42 : S) (h : SH) : Tree := (kK (C 106 [x42] h) (fun v2 h3 => (kK (C 105 [v2] h3) (fun v5 h6 => (kB k (fun h9 => sExt v5 0) (fun v10 h11 => (sT151_8 C k x0 v5 v10 h11)) h6)))))
def sT151_10 (C : CT) (k : Nat) (x0 x35 x37 : S) (h : SH) : Tree := (kB k (fun h1 => sStore 1 x37 x35 h1) (fun r3 _ => (kB k (fun h6 => sNilc x0) (fun v7 h8 => (kB k (fun h9 => sFa 10 v7) (fun v10 h11 => (kB k (fun h12 => sLdA 8 v10 h12) (fun v13 h14 => (sT151_9 C k x0 v13 h14)) h11)) h8)) r3.2)) h)
def sT151_11 (C : CT) (k : Nat) (x0 x31 x34 : S) (h : SH) : Tree := (kB k (fun h1 => sBin .add x34 (S.i .u64 (.lit 1)) (SH.pc h1)) (fun v2 h3 => (kB k (fun h4 => sNilc x31) (fun v5 h6 => (kB k (fun h7 => sFa 4 v5) (fun v8 h9 => (sT151_10 C k x0 v2 v8 h9)) h6)) h3)) h)
def sT151_12 (C : CT) (k : Nat) (x0 x20 : S) (h : SH) : Tree := (kK (C 104 [x20] h) (fun v2 h3 => (kB k (fun h6 => sExt v2 0) (fun v7 h8 => (kB k (fun h9 => sExt v2 1) (fun v10 h11 => (kB k (fun h18 => sUn .not v10 (SH.pc h18)) (fun v19 h20 => (kS v19 (fun h21 => (Tree.leaf (S.tup []) h21)) (fun h22 => (kB k (fun h25 => sNilc x0) (fun v26 h27 => (kB k (fun h28 => sFa 9 v26) (fun v29 h30 => (kB k (fun h31 => sStore 1 v29 (S.i .i64 (.lit 0)) h31) (fun r33 _ => (kB k (fun h36 => sBin .neq v7 (S.i .i64 (.lit 0)) (SH.pc h36)) (fun v37 h38 => (kS v37 (fun h39 => (Tree.leaf (S.tup []) h39)) (fun h40 => (kB k (fun h43 => sNilc x0) (fun v44 h45 => (kB k (fun h46 => sFa 4 v44) (fun v47 h48 => (kB k (fun h49 => sLd1 v47 h49) (fun v50 h51 => (sT151_11 C k x0 x0 v50 h51)) h48)) h45)) h40)) h38)) r33.2)) h30)) h27)) h22)) h20)) h11)) h8)) h3)))
def sT151_13 (C : CT) (k : Nat) (x0 x13 x15 : S) (h : SH) : Tree := (kB k (fun h1 => sStore 8 x15 x13 h1) (fun r3 _ => (kB k (fun h6 => sNilc x0) (fun v7 h8 => (kB k (fun h9 => sFa 10 v7) (fun v10 h11 => (kB k (fun h12 => sLdA 8 v10 h12) (fun v13 h14 => (sT151_12 C k x0 v13 h14)) h11)) h8)) r3.2)) h)
def sT151_14 (C : CT) (k : Nat) (x0 x7 x11 x12 : S) (h : SH) : Tree := (kK (C 103 [x11, x12] h) (fun v2 h3 => (kB k (fun h4 => sNilc x7) (fun v5 h6 => (kB k (fun h7 => sFa 10 v5) (fun v8 h9 => (sT151_13 C k x0 v2 v8 h9)) h6)) h3)))
def sK151 (C : CT) (k : Nat) (x0 x1 : S) (h : SH) : Tree := (kB k (fun h5 => sNilc x0) (fun v6 h7 => (kB k (fun h8 => sFa 10 v6) (fun v9 h10 => (kB k (fun h11 => sLdA 8 v9 h11) (fun v12 h13 => (sT151_14 C k x0 x0 v12 x1 h13)) h10)) h7)) h)
theorem sp151 (C : CT) (k : Nat) : ds C k c151 (sQ151 C k) = fun e h => (sK151 C k (e 0) (e 1) h) := by kernel_rfl
def SF151 : SF := fun C k a h => match a with
  | [a0, a1] => sK151 C k a0 a1 h
  | _ => .no
theorem so151 : SOK IP 151 SF151 := ⟨ir151, ip151, by kernel_rfl, fun C k a h => by
  unfold SF151
  split
  · exact .inr ⟨by kernel_rfl, Eq.symm (Eq.trans (congrFun (congrFun (sp151 C k) _) h) rfl)⟩
  · exact .inl rfl⟩
theorem ip152 : IP 152 = some ir152 := rfl
def sQ152 (C : Nat → List S → SH → Tree) (k : Nat) : X → ES → SH → Tree := QrS k rs152
def sT152_1 (C : CT) (k : Nat) (x45 x49 : S) (h : SH) : Tree := (kK (C 165 [x45, x49] h) (fun v2 h3 => (Tree.leaf (S.tup []) h3)))
def sT152_2 (C : CT) (k : Nat) (x45 x46 : S) (h : SH) : Tree := (kB k (fun h1 => sNilc x46) (fun v2 h3 => (kB k (fun h4 => sFa 27 v2) (fun v5 h6 => (kB k (fun h7 => sLd1 v5 h7) (fun v8 h9 => (sT152_1 C k x45 v8 h9)) h6)) h3)) h)
def sT152_3 (C : CT) (k : Nat) (x0 x33 x37 x40 : S) (h : SH) : Tree := (kB k (fun h1 => sIa 1 x33 x37 (SH.pc h1)) (fun v2 h3 => (kB k (fun h4 => sStore 1 v2 x40 h4) (fun r6 _ => (kB k (fun h9 => sNilc x0) (fun v10 h11 => (kB k (fun h12 => sFa 0 v10) (fun v13 h14 => (kB k (fun h15 => sLd1 v13 h15) (fun v16 h17 => (sT152_2 C k v16 x0 h17)) h14)) h11)) r6.2)) h3)) h)
def sT152_4 (C : CT) (k : Nat) (x0 x33 x37 : S) (h : SH) : Tree := (kB k (fun h1 => sIa 1 x33 x37 (SH.pc h1)) (fun v2 h3 => (kB k (fun h4 => sLd1 v2 h4) (fun v5 h6 => (kB k (fun h7 => sBin .add v5 (S.i .u64 (.lit 1)) (SH.pc h7)) (fun v8 h9 => (sT152_3 C k x0 x33 x37 v8 h9)) h6)) h3)) h)
def sT152_5 (C : CT) (k : Nat) (x0 x33 x34 : S) (h : SH) : Tree := (kB k (fun h1 => sNilc x34) (fun v2 h3 => (kB k (fun h4 => sFa 27 v2) (fun v5 h6 => (kB k (fun h7 => sLd1 v5 h7) (fun v8 h9 => (sT152_4 C k x0 x33 v8 h9)) h6)) h3)) h)
def sT152_6 (C : CT) (k : Nat) (x0 : S) (h : SH) : Tree := (kB k (fun h3 => sNilc x0) (fun v4 h5 => (kB k (fun h6 => sFa 5 v4) (fun v7 h8 => (kB k (fun h9 => sLd1 v7 h9) (fun v10 h11 => (sT152_5 C k x0 v10 x0 h11)) h8)) h5)) h)
def sT152_7 (C : CT) (k : Nat) (x0 x19 : S) (h : SH) : Tree := (kK (C 91 [x19] h) (fun v2 h3 => (kB k (fun h6 => sExt v2 0) (fun v7 h8 => (kB k (fun h9 => sExt v2 1) (fun v10 h11 => (kB k (fun h18 => sUn .not v10 (SH.pc h18)) (fun v19 h20 => (kS v19 (fun h21 => (Tree.leaf (S.tup []) h21)) (fun h22 => (kB k (fun h25 => sNilc x0) (fun v26 h27 => (kB k (fun h28 => sFa 9 v26) (fun v29 h30 => (kB k (fun h31 => sStore 1 v29 (S.i .i64 (.lit 0)) h31) (fun r33 _ => (kB k (fun h36 => sBin .eql v7 (S.i .i64 (.lit 0)) (SH.pc h36)) (fun v37 h38 => (kS v37 (fun h39 => (sT152_6 C k x0 h39)) (fun h40 => (Tree.leaf (S.tup []) h40)) h38)) r33.2)) h30)) h27)) h22)) h20)) h11)) h8)) h3)))
def sT152_8 (C : CT) (k : Nat) (x0 x12 x14 : S) (h : SH) : Tree := (kB k (fun h1 => sStore 9 x14 x12 h1) (fun r3 _ => (kB k (fun h6 => sNilc x0) (fun v7 h8 => (kB k (fun h9 => sFa 18 v7) (fun v10 h11 => (kB k (fun h12 => sLdA 9 v10 h12) (fun v13 h14 => (sT152_7 C k x0 v13 h14)) h11)) h8)) r3.2)) h)
def sT152_9 (C : CT) (k : Nat) (x0 x6 x10 x11 : S) (h : SH) : Tree := (kK (C 90 [x10, x11] h) (fun v2 h3 => (kB k (fun h4 => sNilc x6) (fun v5 h6 => (kB k (fun h7 => sFa 18 v5) (fun v8 h9 => (sT152_8 C k x0 v2 v8 h9)) h6)) h3)))
def sK152 (C : CT) (k : Nat) (x0 x1 : S) (h : SH) : Tree := (kB k (fun h5 => sNilc x0) (fun v6 h7 => (kB k (fun h8 => sFa 18 v6) (fun v9 h10 => (kB k (fun h11 => sLdA 9 v9 h11) (fun v12 h13 => (sT152_9 C k x0 x0 v12 x1 h13)) h10)) h7)) h)
theorem sp152 (C : CT) (k : Nat) : ds C k c152 (sQ152 C k) = fun e h => (sK152 C k (e 0) (e 1) h) := by kernel_rfl
def SF152 : SF := fun C k a h => match a with
  | [a0, a1] => sK152 C k a0 a1 h
  | _ => .no
theorem so152 : SOK IP 152 SF152 := ⟨ir152, ip152, by kernel_rfl, fun C k a h => by
  unfold SF152
  split
  · exact .inr ⟨by kernel_rfl, Eq.symm (Eq.trans (congrFun (congrFun (sp152 C k) _) h) rfl)⟩
  · exact .inl rfl⟩
theorem ip153 : IP 153 = some ir153 := rfl
def sQ153 (C : Nat → List S → SH → Tree) (k : Nat) : X → ES → SH → Tree := QrS k rs153
def sK153 (C : CT) (k : Nat) (x0 : S) (h : SH) : Tree := (kB k (fun h5 => sEqz false .s x0 S.nsl (SH.pc h5)) (fun v6 h7 => (kS v6 (fun h8 => (Tree.leaf S.nsl h8)) (fun h9 => (kB k (fun h12 => sNewSl 0 [] [] h12) (fun r14 _ => (kB k (fun h17 => sApp 1 8 r14.1 x0 h17) (fun r19 _ => (Tree.leaf r19.1 r19.2)) r14.2)) h9)) h7)) h)
theorem sp153 (C : CT) (k : Nat) : ds C k c153 (sQ153 C k) = fun e h => (sK153 C k (e 0) h) := by kernel_rfl
def SF153 : SF := fun C k a h => match a with
  | [a0] => sK153 C k a0 h
  | _ => .no
theorem so153 : SOK IP 153 SF153 := ⟨ir153, ip153, by kernel_rfl, fun C k a h => by
  unfold SF153
  split
  · exact .inr ⟨by kernel_rfl, Eq.symm (Eq.trans (congrFun (congrFun (sp153 C k) _) h) rfl)⟩
  · exact .inl rfl⟩
theorem ip154 : IP 154 = some ir154 := rfl
def sQ154 (C : Nat → List S → SH → Tree) (k : Nat) : X → ES → SH → Tree := QrS k rs154
def sT154_1 (C : CT) (k : Nat) (x2 x4 x10 x11 : S) (h : SH) : Tree := (kB k (fun h1 => sStore 1 x11 x10 h1) (fun r3 _ => (kB k (fun h4 => sLdA 2 x2 h4) (fun v5 h6 => (kB k (fun h7 => sStore 2 x4 v5 h7) (fun r9 _ => (kB k (fun h10 => sLdA 2 x4 h10) (fun v11 h12 => (Tree.leaf v11 h12)) r9.2)) h6)) r3.2)) h)
def sT154_2 (C : CT) (k : Nat) (x2 x4 x6 x8 : S) (h : SH) : Tree := (kB k (fun h1 => sMin x8 [(S.i .i64 (.lit 16))] (SH.pc h1)) (fun v2 h3 => (kB k (fun h4 => sBin .add x6 v2 (SH.pc h4)) (fun v5 h6 => (kB k (fun h7 => sFa 0 x2) (fun v8 h9 => (sT154_1 C k x2 x4 v5 v8 h9)) h6)) h3)) h)
def sK154 (C : CT) (k : Nat) (x0 x1 : S) (h : SH) : Tree := (kB k (fun h1 => sBox x0 h1) (fun r3 _ => (kB k (fun h4 => sZero [(.i .i64 0), (.i .i64 0)] h4) (fun r6 _ => (kB k (fun h7 => sFa 0 r3.1) (fun v8 h9 => (kB k (fun h10 => sLd1 v8 h10) (fun v11 h12 => (kB k (fun h15 => sMax x1 [(S.i .i64 (.lit 0))] (SH.pc h15)) (fun v16 h17 => (sT154_2 C k r3.1 r6.1 v11 v16 h17)) h12)) h9)) r6.2)) r3.2)) h)
theorem sp154 (C : CT) (k : Nat) : ds C k c154 (sQ154 C k) = fun e h => (sK154 C k (e 0) (e 1) h) := by kernel_rfl
def SF154 : SF := fun C k a h => match a with
  | [a0, a1] => sK154 C k a0 a1 h
  | _ => .no
theorem so154 : SOK IP 154 SF154 := ⟨ir154, ip154, by kernel_rfl, fun C k a h => by
  unfold SF154
  split
  · exact .inr ⟨by kernel_rfl, Eq.symm (Eq.trans (congrFun (congrFun (sp154 C k) _) h) rfl)⟩
  · exact .inl rfl⟩
theorem ip155 : IP 155 = some ir155 := rfl
def sQ155 (C : Nat → List S → SH → Tree) (k : Nat) : X → ES → SH → Tree := QrS k rs155
def sK155 (C : CT) (k : Nat) (x0 : S) (h : SH) : Tree := (kB k (fun h5 => sMax x0 [(S.i .i64 (.lit 1))] (SH.pc h5)) (fun v6 h7 => (kB k (fun h8 => sMin v6 [(S.i .i64 (.lit 16))] (SH.pc h8)) (fun v9 h10 => (Tree.leaf v9 h10)) h7)) h)
theorem sp155 (C : CT) (k : Nat) : ds C k c155 (sQ155 C k) = fun e h => (sK155 C k (e 0) h) := by kernel_rfl
def SF155 : SF := fun C k a h => match a with
  | [a0] => sK155 C k a0 h
  | _ => .no
theorem so155 : SOK IP 155 SF155 := ⟨ir155, ip155, by kernel_rfl, fun C k a h => by
  unfold SF155
  split
  · exact .inr ⟨by kernel_rfl, Eq.symm (Eq.trans (congrFun (congrFun (sp155 C k) _) h) rfl)⟩
  · exact .inl rfl⟩
theorem ip156 : IP 156 = some ir156 := rfl
def sQ156 (C : Nat → List S → SH → Tree) (k : Nat) : X → ES → SH → Tree := QrS k rs156
def sT156_1 (C : CT) (k : Nat) (x8 x9 x15 x16 x18 : S) (h : SH) : Tree := (kB k (fun h1 => sStore 1 x18 x15 h1) (fun r3 _ => (kB k (fun h4 => sFa 10 x9) (fun v5 h6 => (kB k (fun h7 => sStore 1 v5 x16 h7) (fun r9 _ => (kB k (fun h10 => sLdA 11 x9 h10) (fun v11 h12 => (kB k (fun h13 => sStore 11 x8 v11 h13) (fun r15 _ => (kB k (fun h16 => sLdA 11 x8 h16) (fun v17 h18 => (Tree.leaf v17 h18)) r15.2)) h12)) r9.2)) h6)) r3.2)) h)
def sT156_2 (C : CT) (k : Nat) (x1 x2 x3 x8 x13 : S) (h : SH) : Tree := (kB k (fun h1 => sZero [(.i .i64 0), (.i .i64 0), (.i .i64 0), (.i .i64 0), (.i .i64 0), (.i .u32 0), (.i .i64 0), (.b false), (.b false), (.i .i64 0), (.i .u32 0)] h1) (fun r3 _ => (kB k (fun h4 => sStore 11 r3.1 x13 h4) (fun r6 _ => (kB k (fun h13 => sFa 0 r3.1) (fun v14 h15 => (kB k (fun h16 => sStore 1 v14 x1 h16) (fun r18 _ => (kB k (fun h19 => sFa 9 r3.1) (fun v20 h21 => (sT156_1 C k x8 r3.1 x2 x3 v20 h21)) r18.2)) h15)) r6.2)) r3.2)) h)
def sK156 (C : CT) (k : Nat) (x0 x1 x2 x3 : S) (h : SH) : Tree := (kB k (fun h1 => sZero [(.i .i64 0), (.i .i64 0), (.i .i64 0), (.i .i64 0), (.i .i64 0), (.i .u32 0), (.i .i64 0), (.b false), (.b false), (.i .i64 0), (.i .u32 0)] h1) (fun r3 _ => (kB k (fun h6 => sNilc x0) (fun v7 h8 => (kB k (fun h9 => sFa 3 v7) (fun v10 h11 => (kB k (fun h12 => sLdA 11 v10 h12) (fun v13 h14 => (sT156_2 C k x1 x2 x3 r3.1 v13 h14)) h11)) h8)) r3.2)) h)
theorem sp156 (C : CT) (k : Nat) : ds C k c156 (sQ156 C k) = fun e h => (sK156 C k (e 0) (e 1) (e 2) (e 3) h) := by kernel_rfl
def SF156 : SF := fun C k a h => match a with
  | [a0, a1, a2, a3] => sK156 C k a0 a1 a2 a3 h
  | _ => .no
theorem so156 : SOK IP 156 SF156 := ⟨ir156, ip156, by kernel_rfl, fun C k a h => by
  unfold SF156
  split
  · exact .inr ⟨by kernel_rfl, Eq.symm (Eq.trans (congrFun (congrFun (sp156 C k) _) h) rfl)⟩
  · exact .inl rfl⟩
theorem ip158 : IP 158 = some ir158 := rfl
def sQ158 (C : Nat → List S → SH → Tree) (k : Nat) : X → ES → SH → Tree := QrS k rs158
def sT158_1 (C : CT) (k : Nat) (x1 x2 : S) (h : SH) : Tree := (kB k (fun h3 => sBin .mul (S.i .u32 (.lit 2)) x1 (SH.pc h3)) (fun v4 h5 => (Tree.leaf (S.tup [v4, x2, (S.b true)]) h5)) h)
def sT158_2 (C : CT) (k : Nat) (x2 : S) (h : SH) : Tree := (Tree.leaf (S.tup [x2, x2, (S.b true)]) h)
def sT158_3 (C : CT) (k : Nat) (x1 x2 x9 : S) (h : SH) : Tree := (kB k (fun h1 => sBin .eql x9 (S.i .i64 (.lit 3)) (SH.pc h1)) (fun v2 h3 => (kS v2 (fun h6 => (sT158_1 C k x1 x2 h6)) (fun h7 => (Tree.leaf (S.tup [(S.i .u32 (.lit 0)), x2, (S.b false)]) h7)) h3)) h)
def sT158_4 (C : CT) (k : Nat) (x1 x2 : S) (h : SH) : Tree := (kB k (fun h5 => sBin .add x2 x1 (SH.pc h5)) (fun v6 h7 => (kB k (fun h12 => sBin .add x2 x1 (SH.pc h12)) (fun v13 h14 => (Tree.leaf (S.tup [v6, v13, (S.b true)]) h14)) h7)) h)
def sT158_5 (C : CT) (k : Nat) (x1 x2 x9 : S) (h : SH) : Tree := (kB k (fun h1 => sBin .eql x9 (S.i .i64 (.lit 2)) (SH.pc h1)) (fun v2 h3 => (kS v2 (fun h6 => (sT158_2 C k x2 h6)) (fun h7 => (sT158_3 C k x1 x2 x9 h7)) h3)) h)
def sT158_6 (C : CT) (k : Nat) (x1 x2 : S) (h : SH) : Tree := (Tree.leaf (S.tup [x1, x2, (S.b true)]) h)
def sT158_7 (C : CT) (k : Nat) (x1 x2 x9 : S) (h : SH) : Tree := (kB k (fun h1 => sBin .eql x9 (S.i .i64 (.lit 1)) (SH.pc h1)) (fun v2 h3 => (kS v2 (fun h6 => (sT158_4 C k x1 x2 h6)) (fun h7 => (sT158_5 C k x1 x2 x9 h7)) h3)) h)
def sK158 (C : CT) (k : Nat) (x0 x1 x2 : S) (h : SH) : Tree := (kB k (fun h9 => sBin .eql x0 (S.i .i64 (.lit 0)) (SH.pc h9)) (fun v10 h11 => (kS v10 (fun h14 => (sT158_6 C k x1 x2 h14)) (fun h15 => (sT158_7 C k x1 x2 x0 h15)) h11)) h)
theorem sp158 (C : CT) (k : Nat) : ds C k c158 (sQ158 C k) = fun e h => (sK158 C k (e 0) (e 1) (e 2) h) := by kernel_rfl
def SF158 : SF := fun C k a h => match a with
  | [a0, a1, a2] => sK158 C k a0 a1 a2 h
  | _ => .no
theorem so158 : SOK IP 158 SF158 := ⟨ir158, ip158, by kernel_rfl, fun C k a h => by
  unfold SF158
  split
  · exact .inr ⟨by kernel_rfl, Eq.symm (Eq.trans (congrFun (congrFun (sp158 C k) _) h) rfl)⟩
  · exact .inl rfl⟩
theorem ip161 : IP 161 = some ir161 := rfl
def sQ161 (C : Nat → List S → SH → Tree) (k : Nat) : X → ES → SH → Tree := QrS k rs161
def sT161_1 (C : CT) (k : Nat) (x40 x41 x43 : S) (h : SH) : Tree := (kB k (fun h1 => sIa 7 x40 x41 (SH.pc h1)) (fun v2 h3 => (kB k (fun h4 => sFa 6 v2) (fun v5 h6 => (kB k (fun h7 => sStore 1 v5 x43 h7) (fun r9 _ => (Tree.leaf (S.tup []) r9.2)) h6)) h3)) h)
def sT161_2 (C : CT) (k : Nat) (x35 x36 x40 x41 x42 x43 : S) (h : SH) : Tree := (kB k (fun h1 => sIa 7 x35 x36 (SH.pc h1)) (fun v2 h3 => (kB k (fun h4 => sFa 5 v2) (fun v5 h6 => (kB k (fun h7 => sStore 1 v5 x42 h7) (fun r9 _ => (sT161_1 C k x40 x41 x43 r9.2)) h6)) h3)) h)
def sT161_3 (C : CT) (k : Nat) (x30 x31 x35 x36 x40 x41 x42 x43 : S) (h : SH) : Tree := (kB k (fun h1 => sIa 7 x30 x31 (SH.pc h1)) (fun v2 h3 => (kB k (fun h4 => sFa 4 v2) (fun v5 h6 => (kB k (fun h7 => sStore 1 v5 (S.b true) h7) (fun r9 _ => (sT161_2 C k x35 x36 x40 x41 x42 x43 r9.2)) h6)) h3)) h)
def sT161_4 (C : CT) (k : Nat) (x2 x3 x8 x30 x31 x35 x36 x37 : S) (h : SH) : Tree := (kB k (fun h1 => sNilc x37) (fun v2 h3 => (kB k (fun h4 => sFa 1 v2) (fun v5 h6 => (kB k (fun h7 => sLd1 v5 h7) (fun v8 h9 => (sT161_3 C k x30 x31 x35 x36 v8 x8 x2 x3 h9)) h6)) h3)) h)
def sT161_5 (C : CT) (k : Nat) (x0 x2 x3 x8 x30 x31 x32 : S) (h : SH) : Tree := (kB k (fun h1 => sNilc x32) (fun v2 h3 => (kB k (fun h4 => sFa 1 v2) (fun v5 h6 => (kB k (fun h7 => sLd1 v5 h7) (fun v8 h9 => (sT161_4 C k x2 x3 x8 x30 x31 v8 x8 x0 h9)) h6)) h3)) h)
def sT161_6 (C : CT) (k : Nat) (x0 x2 x3 x8 : S) (h : SH) : Tree := (kB k (fun h3 => sNilc x0) (fun v4 h5 => (kB k (fun h6 => sFa 1 v4) (fun v7 h8 => (kB k (fun h9 => sLd1 v7 h9) (fun v10 h11 => (sT161_5 C k x0 x2 x3 x8 v10 x8 x0 h11)) h8)) h5)) h)
def sT161_7 (C : CT) (k : Nat) (x0 x2 x3 x8 x16 x24 : S) (h : SH) : Tree := (kB k (gd x16 true uS (fun h1 => sUn .not x24 (SH.pc h1))) (fun v2 h3 => (kB k (fun h4 => sPick x16 v2 (S.b false) (SH.pc h4)) (fun v5 h6 => (kS v5 (fun h7 => (sT161_6 C k x0 x2 x3 x8 h7)) (fun h8 => (Tree.leaf (S.tup []) h8)) h6)) h3)) h)
def sT161_8 (C : CT) (k : Nat) (x0 x2 x3 x8 x16 x20 x21 : S) (h : SH) : Tree := (kB k (gd x16 true uS (fun h1 => sIa 7 x20 x21 (SH.pc h1))) (fun v2 h3 => (kB k (gd x16 true uS (fun h4 => sFa 4 v2)) (fun v5 h6 => (kB k (gd x16 true uS (fun h7 => sLd1 v5 h7)) (fun v8 h9 => (sT161_7 C k x0 x2 x3 x8 x16 v8 h9)) h6)) h3)) h)
def sT161_9 (C : CT) (k : Nat) (x0 x2 x3 x8 x16 x18 : S) (h : SH) : Tree := (kB k (gd x16 true uS (fun h1 => sFa 1 x18)) (fun v2 h3 => (kB k (gd x16 true uS (fun h4 => sLd1 v2 h4)) (fun v5 h6 => (kB k (gd x16 true uS (fun h7 => Res.ok x8)) (fun v8 h9 => (sT161_8 C k x0 x2 x3 x8 x16 v5 v8 h9)) h6)) h3)) h)
def sK161 (C : CT) (k : Nat) (x0 x1 x2 x3 : S) (h : SH) : Tree := (kB k (fun h1 => sBox x1 h1) (fun r3 _ => (kB k (fun h6 => sEqz false .p x0 (S.p none) (SH.pc h6)) (fun v7 h8 => (kS v7 (fun h9 => (Tree.leaf (S.tup []) h9)) (fun h10 => (kB k (fun h13 => sLdA 11 r3.1 h13) (fun v14 h15 => (kK (C 195 [x0, v14] h15) (fun v17 h18 => (kB k (fun h23 => sBin .geq v17 (S.i .i64 (.lit 0)) (SH.pc h23)) (fun v24 h25 => (kB k (gd v24 true uS (fun h28 => Res.ok x0)) (fun v29 h30 => (kB k (gd v24 true uS (fun h31 => sNilc v29)) (fun v32 h33 => (sT161_9 C k x0 x2 x3 v17 v24 v32 h33)) h30)) h25)) h18)))) h10)) h8)) r3.2)) h)
theorem sp161 (C : CT) (k : Nat) : ds C k c161 (sQ161 C k) = fun e h => (sK161 C k (e 0) (e 1) (e 2) (e 3) h) := by kernel_rfl
def SF161 : SF := fun C k a h => match a with
  | [a0, a1, a2, a3] => sK161 C k a0 a1 a2 a3 h
  | _ => .no
theorem so161 : SOK IP 161 SF161 := ⟨ir161, ip161, by kernel_rfl, fun C k a h => by
  unfold SF161
  split
  · exact .inr ⟨by kernel_rfl, Eq.symm (Eq.trans (congrFun (congrFun (sp161 C k) _) h) rfl)⟩
  · exact .inl rfl⟩
theorem ip162 : IP 162 = some ir162 := rfl
def sQ162 (C : Nat → List S → SH → Tree) (k : Nat) : X → ES → SH → Tree := QrS k rs162
def sK162 (C : CT) (k : Nat) (x0 x1 : S) (h : SH) : Tree := (kB k (fun h1 => sBox x0 h1) (fun r3 _ => (kB k (fun h6 => sLdA 2 r3.1 h6) (fun v7 h8 => (kK (C 180 [v7] h8) (fun v10 h11 => (kB k (fun h12 => sUn .not v10 (SH.pc h12)) (fun v13 h14 => (kS v13 (fun h15 => (Tree.leaf (S.i .u64 (.lit 0)) h15)) (fun h16 => (kB k (fun h21 => sFa 0 r3.1) (fun v22 h23 => (kB k (fun h24 => sLd1 v22 h24) (fun v25 h26 => (kB k (fun h27 => sBin .shr x1 v25 (SH.pc h27)) (fun v28 h29 => (kB k (fun h30 => sLdA 2 r3.1 h30) (fun v31 h32 => (kK (C 182 [v31] h32) (fun v34 h35 => (kB k (fun h36 => sBin .and v28 v34 (SH.pc h36)) (fun v37 h38 => (kC (stdyS false 1 v22 h32 h35) (Tree.leaf v37 h38))) h35)))) h29)) h26)) h23)) h16)) h14)) h11)))) r3.2)) h)
theorem sp162 (C : CT) (k : Nat) : ds C k c162 (sQ162 C k) = fun e h => (sK162 C k (e 0) (e 1) h) := by kernel_rfl
def SF162 : SF := fun C k a h => match a with
  | [a0, a1] => sK162 C k a0 a1 h
  | _ => .no
theorem so162 : SOK IP 162 SF162 := ⟨ir162, ip162, by kernel_rfl, fun C k a h => by
  unfold SF162
  split
  · exact .inr ⟨by kernel_rfl, Eq.symm (Eq.trans (congrFun (congrFun (sp162 C k) _) h) rfl)⟩
  · exact .inl rfl⟩
theorem ip163 : IP 163 = some ir163 := rfl
def sQ163 (C : Nat → List S → SH → Tree) (k : Nat) : X → ES → SH → Tree := QrS k rs163
def sQ163_1 (C : CT) (k : Nat) : X → ES → SH → Tree := (sQ163 C k)
def sK163_1 (C : CT) (k : Nat) (x0 : S) (h : SH) : Tree := (Tree.leaf x0 h)
def sJ163_1 (C : CT) (k : Nat) : ES → SH → Tree := fun e h => (sK163_1 C k (e 0) h)
theorem sp163_1 (C : CT) (k : Nat) : ds C k c163_1 (sQ163_1 C k) = (sJ163_1 C k) := by kernel_rfl
def sR163_2 (C : CT) (k : Nat) : X → ES → SH → Tree := (QbS 0 (QxS (sJ163_1 C k) (sQ163 C k)))
def sQ163_2 (C : CT) (k : Nat) (g163_2 : S → S → S → S → SH → Tree) : X → ES → SH → Tree := QxS (fun e h => g163_2 (e 0) (e 7) (e 8) (e 9) h) (sR163_2 C k)
def sT163_3 (C : CT) (k : Nat) (g163_2 : S → S → S → S → SH → Tree) (x0 x6 x7 x8 x9 x12 : S) (h : SH) : Tree := (kB k (fun h1 => sStore 2 x6 x12 h1) (fun r3 _ => (kB k (fun h6 => sLdA 2 x6 h6) (fun v7 h8 => (kK (C 181 [v7] h8) (fun v10 h11 => (kB k (fun h12 => sBin .andNot x0 v10 (SH.pc h12)) (fun v13 h14 => (kB k (fun h17 => sBin .add x9 (S.i .i64 (.lit 1)) (SH.pc h17)) (fun v18 h19 => (g163_2 v13 x7 x8 v18 h19)) h14)) h11)))) r3.2)) h)
def sL163_2 (C : CT) (k : Nat) (g163_2 : S → S → S → S → SH → Tree) (x0 x7 x8 x9 : S) (h : SH) : Tree := (kB k (fun h1 => sBin .lss x9 x8 (SH.pc h1)) (fun v2 h3 => (kS v2 (fun h4 => (kB k (fun h6 => sIa 2 x7 x9 (SH.pc h6)) (fun v7 h8 => (kB k (fun h9 => sLdA 2 v7 h9) (fun v10 h11 => (kB k (fun h12 => sZero [(.i .i64 0), (.i .i64 0)] h12) (fun r14 _ => (sT163_3 C k g163_2 x0 r14.1 x7 x8 x9 v10 r14.2)) h11)) h8)) h4)) (fun h5 => (sK163_1 C k x0 h5)) h3)) h)
theorem sp163_2 (C : CT) (k : Nat) (g163_2 : S → S → S → S → SH → Tree) : ds C k c163_2 (sQ163_2 C k g163_2) = fun e h => (sL163_2 C k g163_2 (e 0) (e 7) (e 8) (e 9) h) := by kernel_rfl
def sW163_2 (C : CT) (k : Nat) (x0 x7 x8 x9 : S) (h : SH) : Tree := kFix k (fun (g : S × S × S × S × Unit → SH → Tree) (x : S × S × S × S × Unit) h => sL163_2 C k (fun y0 y7 y8 y9 h => g (y0, y7, y8, y9, ()) h) x.1 x.2.1 x.2.2.1 x.2.2.2.1 h) (x0, x7, x8, x9, ()) h
theorem sn163_2 (C : CT) (k : Nat) : ∀ g : S × S × S × S × Unit → SH → Tree, ds C k c163_2 (QxS (fun e h => g ((fun e : ES => ((e 0, e 7, e 8, e 9, ()) : S × S × S × S × Unit)) e) h) (sR163_2 C k)) = fun e h => (fun (g : S × S × S × S × Unit → SH → Tree) (x : S × S × S × S × Unit) h => sL163_2 C k (fun y0 y7 y8 y9 h => g (y0, y7, y8, y9, ()) h) x.1 x.2.1 x.2.2.1 x.2.2.2.1 h) g ((fun e : ES => ((e 0, e 7, e 8, e 9, ()) : S × S × S × S × Unit)) e) h := fun g => sp163_2 C k (fun y0 y7 y8 y9 h => g (y0, y7, y8, y9, ()) h)
theorem sw163_2 (C : CT) (k : Nat) : ds C k (.loop c163_2) (sR163_2 C k) = fun e h => (sW163_2 C k (e 0) (e 7) (e 8) (e 9) h) := sloop_eq (fun e : ES => ((e 0, e 7, e 8, e 9, ()) : S × S × S × S × Unit)) (fun (g : S × S × S × S × Unit → SH → Tree) (x : S × S × S × S × Unit) h => sL163_2 C k (fun y0 y7 y8 y9 h => g (y0, y7, y8, y9, ()) h) x.1 x.2.1 x.2.2.1 x.2.2.2.1 h) (sn163_2 C k)
def sK163 (C : CT) (k : Nat) (x0 x1 : S) (h : SH) : Tree := (kB k (fun h5 => sLens x1) (fun v6 h7 => (sW163_2 C k x0 x1 v6 (S.i .i64 (.lit 0)) h7)) h)
theorem sp163 (C : CT) (k : Nat) : ds C k c163 (sQ163 C k) = fun e h => (sK163 C k (e 0) (e 1) h) := by
  refine Eq.trans (sseq_eq (sseq_eq (sp163_1 C k) (sseq_eq (sblock_eq (sw163_2 C k)) rfl)) rfl) ?_
  kernel_rfl
def SF163 : SF := fun C k a h => match a with
  | [a0, a1] => sK163 C k a0 a1 h
  | _ => .no
theorem so163 : SOK IP 163 SF163 := ⟨ir163, ip163, by kernel_rfl, fun C k a h => by
  unfold SF163
  split
  · exact .inr ⟨by kernel_rfl, Eq.symm (Eq.trans (congrFun (congrFun (sp163 C k) _) h) rfl)⟩
  · exact .inl rfl⟩
theorem ip164 : IP 164 = some ir164 := rfl
def sQ164 (C : Nat → List S → SH → Tree) (k : Nat) : X → ES → SH → Tree := QrS k rs164
def sT164_1 (C : CT) (k : Nat) (x4 x31 : S) (h : SH) : Tree := (kB k (fun h1 => sStore 11 x4 x31 h1) (fun r3 _ => (kB k (fun h6 => sLdA 11 x4 h6) (fun v7 h8 => (Tree.leaf (S.tup [v7, (S.b true)]) h8)) r3.2)) h)
def sT164_2 (C : CT) (k : Nat) (x4 x28 : S) (h : SH) : Tree := (kB k (fun h1 => sLd1 x28 h1) (fun v2 h3 => (kB k (fun h4 => sIa 11 v2 (S.i .i64 (.lit 0)) (SH.pc h4)) (fun v5 h6 => (kB k (fun h7 => sLdA 11 v5 h7) (fun v8 h9 => (sT164_1 C k x4 v8 h9)) h6)) h3)) h)
def sT164_3 (C : CT) (k : Nat) (x4 : S) (h : SH) : Tree := (kB k (fun h1 => sBld [(.i .i64 0), (.i .i64 0), (.i .i64 0), (.i .i64 0), (.i .i64 0), (.i .u32 0), (.i .i64 0), (.b false), (.b false), (.i .i64 0), (.i .u32 0)] []) (fun v2 h3 => (kB k (fun h4 => sStore 11 x4 v2 h4) (fun r6 _ => (kB k (fun h9 => sLdA 11 x4 h9) (fun v10 h11 => (Tree.leaf (S.tup [v10, (S.b false)]) h11)) r6.2)) h3)) h)
def sT164_4 (C : CT) (k : Nat) (x0 x1 x4 x13 x20 : S) (h : SH) : Tree := (kB k (gd x13 false uS (fun h1 => sBin .eql x20 (S.i .i64 (.lit 0)) (SH.pc h1))) (fun v2 h3 => (kB k (fun h4 => sPick x13 (S.b true) v2 (SH.pc h4)) (fun v5 h6 => (kS v5 (fun h7 => (sT164_3 C k x4 h7)) (fun h8 => (kB k (fun h13 => sNilc x0) (fun v14 h15 => (kB k (fun h16 => sFa 7 v14) (fun v17 h18 => (kB k (fun h19 => sIaa 1 4 v17 x1 (SH.pc h19)) (fun v20 h21 => (sT164_2 C k x4 v20 h21)) h18)) h15)) h8)) h6)) h3)) h)
def sT164_5 (C : CT) (k : Nat) (x0 x1 x4 x13 x15 x17 : S) (h : SH) : Tree := (kB k (gd x13 false uS (fun h1 => sIaa 1 4 x17 x15 (SH.pc h1))) (fun v2 h3 => (kB k (gd x13 false uS (fun h4 => sLd1 v2 h4)) (fun v5 h6 => (kB k (gd x13 false uS (fun h7 => sLens v5)) (fun v8 h9 => (sT164_4 C k x0 x1 x4 x13 v8 h9)) h6)) h3)) h)
def sT164_6 (C : CT) (k : Nat) (x0 x1 x4 x13 x14 : S) (h : SH) : Tree := (kB k (gd x13 false uS (fun h1 => Res.ok x1)) (fun v2 h3 => (kB k (gd x13 false uS (fun h4 => sNilc x14)) (fun v5 h6 => (kB k (gd x13 false uS (fun h7 => sFa 7 v5)) (fun v8 h9 => (sT164_5 C k x0 x1 x4 x13 v2 v8 h9)) h6)) h3)) h)
def sT164_7 (C : CT) (k : Nat) (x0 x1 x4 x8 x10 : S) (h : SH) : Tree := (kB k (gd x8 false uS (fun h1 => sUn .not x10 (SH.pc h1))) (fun v2 h3 => (kB k (fun h4 => sPick x8 (S.b true) v2 (SH.pc h4)) (fun v5 h6 => (kB k (gd v5 false uS (fun h9 => Res.ok x0)) (fun v10 h11 => (sT164_6 C k x0 x1 x4 v5 v10 h11)) h6)) h3)) h)
def sK164 (C : CT) (k : Nat) (x0 x1 : S) (h : SH) : Tree := (kB k (fun h1 => sZero [(.i .i64 0), (.i .i64 0), (.i .i64 0), (.i .i64 0), (.i .i64 0), (.i .u32 0), (.i .i64 0), (.b false), (.b false), (.i .i64 0), (.i .u32 0)] h1) (fun r3 _ => (kB k (fun h8 => sEqz false .p x0 (S.p none) (SH.pc h8)) (fun v9 h10 => (kB k (gd v9 false uS (fun h13 => Res.ok x1)) (fun v14 h15 => (kK (kG v9 false (fun h16 => C 95 [v14] h16) h15) (fun v17 h18 => (sT164_7 C k x0 x1 r3.1 v9 v17 h18)))) h10)) r3.2)) h)
theorem sp164 (C : CT) (k : Nat) : ds C k c164 (sQ164 C k) = fun e h => (sK164 C k (e 0) (e 1) h) := by kernel_rfl
def SF164 : SF := fun C k a h => match a with
  | [a0, a1] => sK164 C k a0 a1 h
  | _ => .no
theorem so164 : SOK IP 164 SF164 := ⟨ir164, ip164, by kernel_rfl, fun C k a h => by
  unfold SF164
  split
  · exact .inr ⟨by kernel_rfl, Eq.symm (Eq.trans (congrFun (congrFun (sp164 C k) _) h) rfl)⟩
  · exact .inl rfl⟩
theorem ip165 : IP 165 = some ir165 := rfl
def sQ165 (C : Nat → List S → SH → Tree) (k : Nat) : X → ES → SH → Tree := QrS k rs165
def sT165_1 (C : CT) (k : Nat) (x24 x27 : S) (h : SH) : Tree := (kB k (fun h1 => sStore 1 x27 x24 h1) (fun r3 _ => (Tree.leaf (S.b true) r3.2)) h)
def sT165_2 (C : CT) (k : Nat) (x15 x16 x24 : S) (h : SH) : Tree := (kB k (fun h1 => sNilc x15) (fun v2 h3 => (kB k (fun h4 => sFa 7 v2) (fun v5 h6 => (kB k (fun h7 => sIaa 1 4 v5 x16 (SH.pc h7)) (fun v8 h9 => (sT165_1 C k x24 v8 h9)) h6)) h3)) h)
def sT165_3 (C : CT) (k : Nat) (x15 x16 x21 : S) (h : SH) : Tree := (kB k (fun h1 => sLd1 x21 h1) (fun v2 h3 => (kB k (fun h4 => sSls 11 v2 (some (S.i .i64 (.lit 1))) none none (SH.pc h4)) (fun v5 h6 => (kK (C 101 [v5] h6) (fun v8 h9 => (sT165_2 C k x15 x16 v8 h9)))) h3)) h)
def sT165_4 (C : CT) (k : Nat) (x0 x1 x11 x12 : S) (h : SH) : Tree := (kB k (fun h1 => sZero [(.i .i64 0), (.i .i64 0), (.i .i64 0), (.i .i64 0), (.i .i64 0), (.i .u32 0), (.i .i64 0), (.b false), (.b false), (.i .i64 0), (.i .u32 0)] h1) (fun r3 _ => (kB k (fun h4 => sStore 11 r3.1 x11 h4) (fun r6 _ => (kB k (fun h11 => sUn .not x12 (SH.pc h11)) (fun v12 h13 => (kS v12 (fun h14 => (Tree.leaf (S.b false) h14)) (fun h15 => (kB k (fun h26 => sNilc x0) (fun v27 h28 => (kB k (fun h29 => sFa 7 v27) (fun v30 h31 => (kB k (fun h32 => sIaa 1 4 v30 x1 (SH.pc h32)) (fun v33 h34 => (sT165_3 C k x0 x1 v33 h34)) h31)) h28)) h15)) h13)) r6.2)) r3.2)) h)
def sK165 (C : CT) (k : Nat) (x0 x1 : S) (h : SH) : Tree := (kK (C 164 [x0, x1] h) (fun v8 h9 => (kB k (fun h12 => sExt v8 0) (fun v13 h14 => (kB k (fun h15 => sExt v8 1) (fun v16 h17 => (sT165_4 C k x0 x1 v13 v16 h17)) h14)) h9)))
theorem sp165 (C : CT) (k : Nat) : ds C k c165 (sQ165 C k) = fun e h => (sK165 C k (e 0) (e 1) h) := by kernel_rfl
def SF165 : SF := fun C k a h => match a with
  | [a0, a1] => sK165 C k a0 a1 h
  | _ => .no
theorem so165 : SOK IP 165 SF165 := ⟨ir165, ip165, by kernel_rfl, fun C k a h => by
  unfold SF165
  split
  · exact .inr ⟨by kernel_rfl, Eq.symm (Eq.trans (congrFun (congrFun (sp165 C k) _) h) rfl)⟩
  · exact .inl rfl⟩
theorem ip166 : IP 166 = some ir166 := rfl
def sQ166 (C : Nat → List S → SH → Tree) (k : Nat) : X → ES → SH → Tree := QrS k rs166
def sQ166_1 (C : CT) (k : Nat) : X → ES → SH → Tree := (sQ166 C k)
def sK166_1 (C : CT) (k : Nat) (h : SH) : Tree := (Tree.leaf (S.b true) h)
def sJ166_1 (C : CT) (k : Nat) : ES → SH → Tree := fun e h => (sK166_1 C k h)
theorem sp166_1 (C : CT) (k : Nat) : ds C k c166_1 (sQ166_1 C k) = (sJ166_1 C k) := by kernel_rfl
def sT166_2 (C : CT) (k : Nat) (x39 x40 : S) (h : SH) : Tree := (kB k (fun h1 => sFa 1 x40) (fun v2 h3 => (kB k (fun h4 => sStore 1 v2 x39 h4) (fun r6 _ => (sK166_1 C k r6.2)) h3)) h)
def sT166_3 (C : CT) (k : Nat) (x32 x36 x37 : S) (h : SH) : Tree := (kB k (fun h1 => sNewSl 1 [(.i .i64 0)] [(0, 1, x37)] h1) (fun r3 _ => (kB k (fun h4 => sApp 1 8 x36 r3.1 h4) (fun r6 _ => (kB k (fun h7 => sNilc x32) (fun v8 h9 => (sT166_2 C k r6.1 v8 h9)) r6.2)) r3.2)) h)
def sT166_4 (C : CT) (k : Nat) (x0 x1 : S) (h : SH) : Tree := (kB k (fun h5 => sNilc x0) (fun v6 h7 => (kB k (fun h8 => sFa 1 v6) (fun v9 h10 => (kB k (fun h11 => sLd1 v9 h11) (fun v12 h13 => (sT166_3 C k x0 v12 x1 h13)) h10)) h7)) h)
def sT166_5 (C : CT) (k : Nat) (x0 x1 x28 x29 : S) (h : SH) : Tree := (kK (C 196 [x28, x29] h) (fun v2 h3 => (kB k (fun h4 => sUn .not v2 (SH.pc h4)) (fun v5 h6 => (kS v5 (fun h7 => (sT166_4 C k x0 x1 h7)) (fun h8 => (sK166_1 C k h8)) h6)) h3)))
def sT166_6 (C : CT) (k : Nat) (x22 x24 : S) (h : SH) : Tree := (kB k (fun h1 => sStore 1 x24 x22 h1) (fun r3 _ => (Tree.leaf (S.b false) r3.2)) h)
def sT166_7 (C : CT) (k : Nat) (x18 x21 : S) (h : SH) : Tree := (kB k (fun h1 => sBin .add x21 (S.i .i64 (.lit 1)) (SH.pc h1)) (fun v2 h3 => (kB k (fun h4 => sNilc x18) (fun v5 h6 => (kB k (fun h7 => sFa 2 v5) (fun v8 h9 => (sT166_6 C k v2 v8 h9)) h6)) h3)) h)
def sT166_8 (C : CT) (k : Nat) (x0 : S) (h : SH) : Tree := (kB k (fun h3 => sNilc x0) (fun v4 h5 => (kB k (fun h6 => sFa 2 v4) (fun v7 h8 => (kB k (fun h9 => sLd1 v7 h9) (fun v10 h11 => (sT166_7 C k x0 v10 h11)) h8)) h5)) h)
def sT166_9 (C : CT) (k : Nat) (x0 x1 x9 x10 x14 : S) (h : SH) : Tree := (kB k (gd x9 false uS (fun h1 => sLens x14)) (fun v2 h3 => (kB k (gd x9 false uS (fun h4 => sBin .geq x10 v2 (SH.pc h4))) (fun v5 h6 => (kB k (fun h7 => sPick x9 (S.b true) v5 (SH.pc h7)) (fun v8 h9 => (kS v8 (fun h10 => (sT166_8 C k x0 h10)) (fun h11 => (kB k (fun h14 => sNilc x0) (fun v15 h16 => (kB k (fun h17 => sFa 1 v15) (fun v18 h19 => (kB k (fun h20 => sLd1 v18 h20) (fun v21 h22 => (sT166_5 C k x0 x1 v21 x1 h22)) h19)) h16)) h11)) h9)) h6)) h3)) h)
def sT166_10 (C : CT) (k : Nat) (x0 x1 x9 x10 x11 : S) (h : SH) : Tree := (kB k (gd x9 false uS (fun h1 => sNilc x11)) (fun v2 h3 => (kB k (gd x9 false uS (fun h4 => sFa 0 v2)) (fun v5 h6 => (kB k (gd x9 false uS (fun h7 => sLd1 v5 h7)) (fun v8 h9 => (sT166_9 C k x0 x1 x9 x10 v8 h9)) h6)) h3)) h)
def sK166 (C : CT) (k : Nat) (x0 x1 : S) (h : SH) : Tree := (kB k (fun h5 => sEqz false .p x0 (S.p none) (SH.pc h5)) (fun v6 h7 => (kS v6 (fun h8 => (Tree.leaf (S.b false) h8)) (fun h9 => (kB k (fun h14 => sBin .lss x1 (S.i .i64 (.lit 0)) (SH.pc h14)) (fun v15 h16 => (kB k (gd v15 false uS (fun h19 => Res.ok x1)) (fun v20 h21 => (kB k (gd v15 false uS (fun h22 => Res.ok x0)) (fun v23 h24 => (sT166_10 C k x0 x1 v15 v20 v23 h24)) h21)) h16)) h9)) h7)) h)
theorem sp166 (C : CT) (k : Nat) : ds C k c166 (sQ166 C k) = fun e h => (sK166 C k (e 0) (e 1) h) := by
  refine Eq.trans (sseq_eq (sseq_eq (sseq_eq (sseq_eq (sp166_1 C k) rfl) rfl) rfl) rfl) ?_
  kernel_rfl
def SF166 : SF := fun C k a h => match a with
  | [a0, a1] => sK166 C k a0 a1 h
  | _ => .no
theorem so166 : SOK IP 166 SF166 := ⟨ir166, ip166, by kernel_rfl, fun C k a h => by
  unfold SF166
  split
  · exact .inr ⟨by kernel_rfl, Eq.symm (Eq.trans (congrFun (congrFun (sp166 C k) _) h) rfl)⟩
  · exact .inl rfl⟩
theorem ip180 : IP 180 = some ir180 := rfl
def sQ180 (C : Nat → List S → SH → Tree) (k : Nat) : X → ES → SH → Tree := QrS k rs180
def sT180_1 (C : CT) (k : Nat) (x16 x18 x20 : S) (h : SH) : Tree := (kB k (gd x16 true uS (fun h1 => sBin .sub (S.i .i64 (.lit 64)) x20 (SH.pc h1))) (fun v2 h3 => (kB k (gd x16 true uS (fun h4 => sBin .leq x18 v2 (SH.pc h4))) (fun v5 h6 => (kB k (fun h7 => sPick x16 v5 (S.b false) (SH.pc h7)) (fun v8 h9 => (Tree.leaf v8 h9)) h6)) h3)) h)
def sT180_2 (C : CT) (k : Nat) (x1 x16 x17 : S) (h : SH) : Tree := (kB k (gd x16 true uS (fun h1 => sLd1 x17 h1)) (fun v2 h3 => (kB k (gd x16 true uS (fun h4 => sFa 0 x1)) (fun v5 h6 => (kB k (gd x16 true uS (fun h7 => sLd1 v5 h7)) (fun v8 h9 => (sT180_1 C k x16 v2 v8 h9)) h6)) h3)) h)
def sT180_3 (C : CT) (k : Nat) (x1 x11 x13 : S) (h : SH) : Tree := (kB k (gd x11 true uS (fun h1 => sBin .lss x13 (S.i .i64 (.lit 64)) (SH.pc h1))) (fun v2 h3 => (kB k (fun h4 => sPick x11 v2 (S.b false) (SH.pc h4)) (fun v5 h6 => (kB k (gd v5 true uS (fun h9 => sFa 1 x1)) (fun v10 h11 => (sT180_2 C k x1 v5 v10 h11)) h6)) h3)) h)
def sT180_4 (C : CT) (k : Nat) (x1 x6 x9 : S) (h : SH) : Tree := (kB k (fun h1 => sPick x6 x9 (S.b false) (SH.pc h1)) (fun v2 h3 => (kB k (gd v2 true uS (fun h6 => sFa 0 x1)) (fun v7 h8 => (kB k (gd v2 true uS (fun h9 => sLd1 v7 h9)) (fun v10 h11 => (sT180_3 C k x1 v2 v10 h11)) h8)) h3)) h)
def sT180_5 (C : CT) (k : Nat) (x1 x6 : S) (h : SH) : Tree := (kB k (gd x6 true uS (fun h1 => sFa 1 x1)) (fun v2 h3 => (kB k (gd x6 true uS (fun h4 => sLd1 v2 h4)) (fun v5 h6 => (kB k (gd x6 true uS (fun h7 => sBin .geq v5 (S.i .i64 (.lit 1)) (SH.pc h7))) (fun v8 h9 => (sT180_4 C k x1 x6 v8 h9)) h6)) h3)) h)
def sK180 (C : CT) (k : Nat) (x0 : S) (h : SH) : Tree := (kB k (fun h1 => sBox x0 h1) (fun r3 _ => (kB k (fun h6 => sFa 0 r3.1) (fun v7 h8 => (kB k (fun h9 => sLd1 v7 h9) (fun v10 h11 => (kB k (fun h12 => sBin .geq v10 (S.i .i64 (.lit 0)) (SH.pc h12)) (fun v13 h14 => (sT180_5 C k r3.1 v13 h14)) h11)) h8)) r3.2)) h)
theorem sp180 (C : CT) (k : Nat) : ds C k c180 (sQ180 C k) = fun e h => (sK180 C k (e 0) h) := by kernel_rfl
def SF180 : SF := fun C k a h => match a with
  | [a0] => sK180 C k a0 h
  | _ => .no
theorem so180 : SOK IP 180 SF180 := ⟨ir180, ip180, by kernel_rfl, fun C k a h => by
  unfold SF180
  split
  · exact .inr ⟨by kernel_rfl, Eq.symm (Eq.trans (congrFun (congrFun (sp180 C k) _) h) rfl)⟩
  · exact .inl rfl⟩
theorem ip181 : IP 181 = some ir181 := rfl
def sQ181 (C : Nat → List S → SH → Tree) (k : Nat) : X → ES → SH → Tree := QrS k rs181
def sK181 (C : CT) (k : Nat) (x0 : S) (h : SH) : Tree := (kB k (fun h1 => sBox x0 h1) (fun r3 _ => (kB k (fun h6 => sLdA 2 r3.1 h6) (fun v7 h8 => (kK (C 180 [v7] h8) (fun v10 h11 => (kB k (fun h12 => sUn .not v10 (SH.pc h12)) (fun v13 h14 => (kS v13 (fun h15 => (Tree.leaf (S.i .u64 (.lit 0)) h15)) (fun h16 => (kB k (fun h19 => sLdA 2 r3.1 h19) (fun v20 h21 => (kK (C 182 [v20] h21) (fun v23 h24 => (kB k (fun h25 => sFa 0 r3.1) (fun v26 h27 => (kB k (fun h28 => sLd1 v26 h28) (fun v29 h30 => (kB k (fun h31 => sBin .shl v23 v29 (SH.pc h31)) (fun v32 h33 => (kC (stdyS false 1 v26 h21 h24) (Tree.leaf v32 h33))) h30)) h27)) h24)))) h16)) h14)) h11)))) r3.2)) h)
theorem sp181 (C : CT) (k : Nat) : ds C k c181 (sQ181 C k) = fun e h => (sK181 C k (e 0) h) := by kernel_rfl
def SF181 : SF := fun C k a h => match a with
  | [a0] => sK181 C k a0 h
  | _ => .no
theorem so181 : SOK IP 181 SF181 := ⟨ir181, ip181, by kernel_rfl, fun C k a h => by
  unfold SF181
  split
  · exact .inr ⟨by kernel_rfl, Eq.symm (Eq.trans (congrFun (congrFun (sp181 C k) _) h) rfl)⟩
  · exact .inl rfl⟩
theorem ip182 : IP 182 = some ir182 := rfl
def sQ182 (C : Nat → List S → SH → Tree) (k : Nat) : X → ES → SH → Tree := QrS k rs182
def sT182_1 (C : CT) (k : Nat) (x8 : S) (h : SH) : Tree := (kB k (fun h1 => sBin .shr (S.i .u64 (.lit 18446744073709551615)) x8 (SH.pc h1)) (fun v2 h3 => (Tree.leaf v2 h3)) h)
def sK182 (C : CT) (k : Nat) (x0 : S) (h : SH) : Tree := (kB k (fun h1 => sBox x0 h1) (fun r3 _ => (kB k (fun h6 => sLdA 2 r3.1 h6) (fun v7 h8 => (kK (C 180 [v7] h8) (fun v10 h11 => (kB k (fun h12 => sUn .not v10 (SH.pc h12)) (fun v13 h14 => (kS v13 (fun h15 => (Tree.leaf (S.i .u64 (.lit 0)) h15)) (fun h16 => (kB k (fun h19 => sFa 1 r3.1) (fun v20 h21 => (kB k (fun h22 => sLd1 v20 h22) (fun v23 h24 => (kB k (fun h25 => sBin .sub (S.i .i64 (.lit 64)) v23 (SH.pc h25)) (fun v26 h27 => (sT182_1 C k v26 h27)) h24)) h21)) h16)) h14)) h11)))) r3.2)) h)
theorem sp182 (C : CT) (k : Nat) : ds C k c182 (sQ182 C k) = fun e h => (sK182 C k (e 0) h) := by kernel_rfl
def SF182 : SF := fun C k a h => match a with
  | [a0] => sK182 C k a0 h
  | _ => .no
theorem so182 : SOK IP 182 SF182 := ⟨ir182, ip182, by kernel_rfl, fun C k a h => by
  unfold SF182
  split
  · exact .inr ⟨by kernel_rfl, Eq.symm (Eq.trans (congrFun (congrFun (sp182 C k) _) h) rfl)⟩
  · exact .inl rfl⟩
theorem ip193 : IP 193 = some ir193 := rfl
def sQ193 (C : Nat → List S → SH → Tree) (k : Nat) : X → ES → SH → Tree := QrS k rs193
def sT193_1 (C : CT) (k : Nat) (x7 x8 x9 : S) (h : SH) : Tree := (kB k (gd x7 true uS (fun h1 => sBin .leq x8 x9 (SH.pc h1))) (fun v2 h3 => (kB k (fun h4 => sPick x7 v2 (S.b false) (SH.pc h4)) (fun v5 h6 => (Tree.leaf v5 h6)) h3)) h)
def sK193 (C : CT) (k : Nat) (x0 x1 : S) (h : SH) : Tree := (kB k (fun h5 => sBin .geq x0 (S.i .i64 (.lit 0)) (SH.pc h5)) (fun v6 h7 => (kB k (gd v6 true uS (fun h10 => Res.ok x0)) (fun v11 h12 => (kB k (gd v6 true uS (fun h13 => Res.ok x1)) (fun v14 h15 => (sT193_1 C k v6 v11 v14 h15)) h12)) h7)) h)
theorem sp193 (C : CT) (k : Nat) : ds C k c193 (sQ193 C k) = fun e h => (sK193 C k (e 0) (e 1) h) := by kernel_rfl
def SF193 : SF := fun C k a h => match a with
  | [a0, a1] => sK193 C k a0 a1 h
  | _ => .no
theorem so193 : SOK IP 193 SF193 := ⟨ir193, ip193, by kernel_rfl, fun C k a h => by
  unfold SF193
  split
  · exact .inr ⟨by kernel_rfl, Eq.symm (Eq.trans (congrFun (congrFun (sp193 C k) _) h) rfl)⟩
  · exact .inl rfl⟩
theorem ip194 : IP 194 = some ir194 := rfl
def sQ194 (C : Nat → List S → SH → Tree) (k : Nat) : X → ES → SH → Tree := QrS k rs194
def sR194_1 (C : CT) (k : Nat) : X → ES → SH → Tree := (QbS 1 (QbS 0 (sQ194 C k)))
def sQ194_1 (C : CT) (k : Nat) (g194_1 : S → S → S → S → SH → Tree) : X → ES → SH → Tree := QxS (fun e h => g194_1 (e 3) (e 28) (e 29) (e 30) h) (sR194_1 C k)
def sL194_1 (C : CT) (k : Nat) (g194_1 : S → S → S → S → SH → Tree) (x3 x28 x29 x30 : S) (h : SH) : Tree := (kB k (fun h1 => sBin .lss x30 x29 (SH.pc h1)) (fun v2 h3 => (kS v2 (fun h4 => (kB k (fun h6 => sIa 1 x28 x30 (SH.pc h6)) (fun v7 h8 => (kB k (fun h9 => sLd1 v7 h9) (fun v10 h11 => (kB k (fun h16 => sLdA 11 x3 h16) (fun v17 h18 => (kK (C 233 [v10, v17] h18) (fun v20 h21 => (kB k (fun h22 => sBin .add x30 (S.i .i64 (.lit 1)) (SH.pc h22)) (fun v23 h24 => (g194_1 x3 x28 x29 v23 h24)) h21)))) h11)) h8)) h4)) (fun h5 => (Tree.leaf (S.tup []) h5)) h3)) h)
theorem sp194_1 (C : CT) (k : Nat) (g194_1 : S → S → S → S → SH → Tree) : ds C k c194_1 (sQ194_1 C k g194_1) = fun e h => (sL194_1 C k g194_1 (e 3) (e 28) (e 29) (e 30) h) := by kernel_rfl
def sW194_1 (C : CT) (k : Nat) (x3 x28 x29 x30 : S) (h : SH) : Tree := kFix k (fun (g : S × S × S × S × Unit → SH → Tree) (x : S × S × S × S × Unit) h => sL194_1 C k (fun y3 y28 y29 y30 h => g (y3, y28, y29, y30, ()) h) x.1 x.2.1 x.2.2.1 x.2.2.2.1 h) (x3, x28, x29, x30, ()) h
theorem sn194_1 (C : CT) (k : Nat) : ∀ g : S × S × S × S × Unit → SH → Tree, ds C k c194_1 (QxS (fun e h => g ((fun e : ES => ((e 3, e 28, e 29, e 30, ()) : S × S × S × S × Unit)) e) h) (sR194_1 C k)) = fun e h => (fun (g : S × S × S × S × Unit → SH → Tree) (x : S × S × S × S × Unit) h => sL194_1 C k (fun y3 y28 y29 y30 h => g (y3, y28, y29, y30, ()) h) x.1 x.2.1 x.2.2.1 x.2.2.2.1 h) g ((fun e : ES => ((e 3, e 28, e 29, e 30, ()) : S × S × S × S × Unit)) e) h := fun g => sp194_1 C k (fun y3 y28 y29 y30 h => g (y3, y28, y29, y30, ()) h)
theorem sw194_1 (C : CT) (k : Nat) : ds C k (.loop c194_1) (sR194_1 C k) = fun e h => (sW194_1 C k (e 3) (e 28) (e 29) (e 30) h) := sloop_eq (fun e : ES => ((e 3, e 28, e 29, e 30, ()) : S × S × S × S × Unit)) (fun (g : S × S × S × S × Unit → SH → Tree) (x : S × S × S × S × Unit) h => sL194_1 C k (fun y3 y28 y29 y30 h => g (y3, y28, y29, y30, ()) h) x.1 x.2.1 x.2.2.1 x.2.2.2.1 h) (sn194_1 C k)
def sT194_2 (C : CT) (k : Nat) (x3 x28 : S) (h : SH) : Tree := (kB k (fun h1 => sLens x28) (fun v2 h3 => (sW194_1 C k x3 x28 v2 (S.i .i64 (.lit 0)) h3)) h)
def sR194_3 (C : CT) (k : Nat) : X → ES → SH → Tree := (QbS 3 (QbS 0 (sQ194 C k)))
def sQ194_3 (C : CT) (k : Nat) (g194_3 : S → S → S → S → SH → Tree) : X → ES → SH → Tree := QxS (fun e h => g194_3 (e 3) (e 43) (e 44) (e 45) h) (sR194_3 C k)
def sL194_3 (C : CT) (k : Nat) (g194_3 : S → S → S → S → SH → Tree) (x3 x43 x44 x45 : S) (h : SH) : Tree := (kB k (fun h1 => sBin .lss x45 x44 (SH.pc h1)) (fun v2 h3 => (kS v2 (fun h4 => (kB k (fun h6 => sIa 1 x43 x45 (SH.pc h6)) (fun v7 h8 => (kB k (fun h9 => sLd1 v7 h9) (fun v10 h11 => (kB k (fun h16 => sLdA 11 x3 h16) (fun v17 h18 => (kK (C 234 [v10, v17] h18) (fun v20 h21 => (kB k (fun h22 => sBin .add x45 (S.i .i64 (.lit 1)) (SH.pc h22)) (fun v23 h24 => (g194_3 x3 x43 x44 v23 h24)) h21)))) h11)) h8)) h4)) (fun h5 => (Tree.leaf (S.tup []) h5)) h3)) h)
theorem sp194_3 (C : CT) (k : Nat) (g194_3 : S → S → S → S → SH → Tree) : ds C k c194_3 (sQ194_3 C k g194_3) = fun e h => (sL194_3 C k g194_3 (e 3) (e 43) (e 44) (e 45) h) := by kernel_rfl
def sW194_3 (C : CT) (k : Nat) (x3 x43 x44 x45 : S) (h : SH) : Tree := kFix k (fun (g : S × S × S × S × Unit → SH → Tree) (x : S × S × S × S × Unit) h => sL194_3 C k (fun y3 y43 y44 y45 h => g (y3, y43, y44, y45, ()) h) x.1 x.2.1 x.2.2.1 x.2.2.2.1 h) (x3, x43, x44, x45, ()) h
theorem sn194_3 (C : CT) (k : Nat) : ∀ g : S × S × S × S × Unit → SH → Tree, ds C k c194_3 (QxS (fun e h => g ((fun e : ES => ((e 3, e 43, e 44, e 45, ()) : S × S × S × S × Unit)) e) h) (sR194_3 C k)) = fun e h => (fun (g : S × S × S × S × Unit → SH → Tree) (x : S × S × S × S × Unit) h => sL194_3 C k (fun y3 y43 y44 y45 h => g (y3, y43, y44, y45, ()) h) x.1 x.2.1 x.2.2.1 x.2.2.2.1 h) g ((fun e : ES => ((e 3, e 43, e 44, e 45, ()) : S × S × S × S × Unit)) e) h := fun g => sp194_3 C k (fun y3 y43 y44 y45 h => g (y3, y43, y44, y45, ()) h)
theorem sw194_3 (C : CT) (k : Nat) : ds C k (.loop c194_3) (sR194_3 C k) = fun e h => (sW194_3 C k (e 3) (e 43) (e 44) (e 45) h) := sloop_eq (fun e : ES => ((e 3, e 43, e 44, e 45, ()) : S × S × S × S × Unit)) (fun (g : S × S × S × S × Unit → SH → Tree) (x : S × S × S × S × Unit) h => sL194_3 C k (fun y3 y43 y44 y45 h => g (y3, y43, y44, y45, ()) h) x.1 x.2.1 x.2.2.1 x.2.2.2.1 h) (sn194_3 C k)
def sT194_4 (C : CT) (k : Nat) (x3 x43 : S) (h : SH) : Tree := (kB k (fun h1 => sLens x43) (fun v2 h3 => (sW194_3 C k x3 x43 v2 (S.i .i64 (.lit 0)) h3)) h)
def sT194_5 (C : CT) (k : Nat) (x3 x58 : S) (h : SH) : Tree := (kB k (fun h1 => sLdA 11 x3 h1) (fun v2 h3 => (kK (C 235 [x58, v2] h3) (fun v5 h6 => (Tree.leaf (S.tup []) h6)))) h)
def sT194_6 (C : CT) (k : Nat) (x0 x3 : S) (h : SH) : Tree := (kB k (fun h3 => sNilc x0) (fun v4 h5 => (kB k (fun h6 => sFa 5 v4) (fun v7 h8 => (kB k (fun h9 => sLd1 v7 h9) (fun v10 h11 => (sT194_5 C k x3 v10 h11)) h8)) h5)) h)
def sT194_7 (C : CT) (k : Nat) (x0 x3 : S) (h : SH) : Tree := (kB k (fun h3 => sNilc x0) (fun v4 h5 => (kB k (fun h6 => sFa 4 v4) (fun v7 h8 => (kB k (fun h9 => sLd1 v7 h9) (fun v10 h11 => (sT194_4 C k x3 v10 h11)) h8)) h5)) h)
def sT194_8 (C : CT) (k : Nat) (x0 x3 x17 : S) (h : SH) : Tree := (kB k (fun h1 => sBin .eql x17 (S.i .i64 (.lit 8)) (SH.pc h1)) (fun v2 h3 => (kS v2 (fun h6 => (sT194_6 C k x0 x3 h6)) (fun h7 => (Tree.leaf (S.tup []) h7)) h3)) h)
def sT194_9 (C : CT) (k : Nat) (x0 x3 : S) (h : SH) : Tree := (kB k (fun h3 => sNilc x0) (fun v4 h5 => (kB k (fun h6 => sFa 4 v4) (fun v7 h8 => (kB k (fun h9 => sLd1 v7 h9) (fun v10 h11 => (sT194_2 C k x3 v10 h11)) h8)) h5)) h)
def sT194_10 (C : CT) (k : Nat) (x0 x3 x17 : S) (h : SH) : Tree := (kB k (fun h1 => sBin .eql x17 (S.i .i64 (.lit 6)) (SH.pc h1)) (fun v2 h3 => (kS v2 (fun h6 => (sT194_7 C k x0 x3 h6)) (fun h7 => (sT194_8 C k x0 x3 x17 h7)) h3)) h)
def sT194_11 (C : CT) (k : Nat) (x0 x3 : S) (h : SH) : Tree := (kB k (fun h3 => sLdA 11 x3 h3) (fun v4 h5 => (kK (C 232 [x0, v4] h5) (fun v7 h8 => (Tree.leaf (S.tup []) h8)))) h)
def sT194_12 (C : CT) (k : Nat) (x0 x3 x17 : S) (h : SH) : Tree := (kB k (fun h1 => sBin .eql x17 (S.i .i64 (.lit 5)) (SH.pc h1)) (fun v2 h3 => (kS v2 (fun h6 => (sT194_9 C k x0 x3 h6)) (fun h7 => (sT194_10 C k x0 x3 x17 h7)) h3)) h)
def sT194_13 (C : CT) (k : Nat) (x0 x3 x10 x12 : S) (h : SH) : Tree := (kK (kG x10 false (fun h1 => C 95 [x12] h1) h) (fun v2 h3 => (kB k (gd x10 false uS (fun h4 => sUn .not v2 (SH.pc h4))) (fun v5 h6 => (kB k (fun h7 => sPick x10 (S.b true) v5 (SH.pc h7)) (fun v8 h9 => (kS v8 (fun h10 => (Tree.leaf (S.tup []) h10)) (fun h11 => (kB k (fun h12 => sFa 0 x3) (fun v13 h14 => (kB k (fun h15 => sLd1 v13 h15) (fun v16 h17 => (kB k (fun h18 => sBin .eql v16 (S.i .i64 (.lit 1)) (SH.pc h18)) (fun v19 h20 => (kS v19 (fun h23 => (sT194_11 C k x0 x3 h23)) (fun h24 => (sT194_12 C k x0 x3 v16 h24)) h20)) h17)) h14)) h11)) h9)) h6)) h3)))
def sK194 (C : CT) (k : Nat) (x0 x1 : S) (h : SH) : Tree := (kB k (fun h1 => sBox x1 h1) (fun r3 _ => (kB k (fun h6 => sEqz false .p x0 (S.p none) (SH.pc h6)) (fun v7 h8 => (kB k (gd v7 false uS (fun h11 => sFa 1 r3.1)) (fun v12 h13 => (kB k (gd v7 false uS (fun h14 => sLd1 v12 h14)) (fun v15 h16 => (sT194_13 C k x0 r3.1 v7 v15 h16)) h13)) h8)) r3.2)) h)
theorem sp194 (C : CT) (k : Nat) : ds C k c194 (sQ194 C k) = fun e h => (sK194 C k (e 0) (e 1) h) := by
  refine Eq.trans (sseq_eq (sseq_eq (sseq_eq (sblock_eq (sseq_eq (scond_eq rfl (sseq_eq (scond_eq (sseq_eq (sblock_eq (sw194_1 C k)) rfl) (sseq_eq (scond_eq (sseq_eq (sblock_eq (sw194_3 C k)) rfl) rfl) rfl)) rfl)) rfl)) rfl) rfl) rfl) ?_
  kernel_rfl
def SF194 : SF := fun C k a h => match a with
  | [a0, a1] => sK194 C k a0 a1 h
  | _ => .no
theorem so194 : SOK IP 194 SF194 := ⟨ir194, ip194, by kernel_rfl, fun C k a h => by
  unfold SF194
  split
  · exact .inr ⟨by kernel_rfl, Eq.symm (Eq.trans (congrFun (congrFun (sp194 C k) _) h) rfl)⟩
  · exact .inl rfl⟩
theorem ip195 : IP 195 = some ir195 := rfl
def sQ195 (C : Nat → List S → SH → Tree) (k : Nat) : X → ES → SH → Tree := QrS k rs195
def sT195_1 (C : CT) (k : Nat) (x3 x8 : S) (h : SH) : Tree := (kB k (fun h1 => Res.ok (S.fn 237 [x3])) (fun v2 h3 => (kK (C 236 [x8, v2] h3) (fun v5 h6 => (Tree.leaf v5 h6)))) h)
def sK195 (C : CT) (k : Nat) (x0 x1 : S) (h : SH) : Tree := (kB k (fun h1 => sBox x1 h1) (fun r3 _ => (kB k (fun h8 => sNilc x0) (fun v9 h10 => (kB k (fun h11 => sFa 1 v9) (fun v12 h13 => (kB k (fun h14 => sLd1 v12 h14) (fun v15 h16 => (sT195_1 C k r3.1 v15 h16)) h13)) h10)) r3.2)) h)
theorem sp195 (C : CT) (k : Nat) : ds C k c195 (sQ195 C k) = fun e h => (sK195 C k (e 0) (e 1) h) := by kernel_rfl
def SF195 : SF := fun C k a h => match a with
  | [a0, a1] => sK195 C k a0 a1 h
  | _ => .no
theorem so195 : SOK IP 195 SF195 := ⟨ir195, ip195, by kernel_rfl, fun C k a h => by
  unfold SF195
  split
  · exact .inr ⟨by kernel_rfl, Eq.symm (Eq.trans (congrFun (congrFun (sp195 C k) _) h) rfl)⟩
  · exact .inl rfl⟩
theorem ip196 : IP 196 = some ir196 := rfl
def sQ196 (C : Nat → List S → SH → Tree) (k : Nat) : X → ES → SH → Tree := QrS k rs196
def sK196 (C : CT) (k : Nat) (x0 x1 : S) (h : SH) : Tree := (kK (C 238 [x0, x1] h) (fun v8 h9 => (kB k (fun h10 => sBin .geq v8 (S.i .i64 (.lit 0)) (SH.pc h10)) (fun v11 h12 => (Tree.leaf v11 h12)) h9)))
theorem sp196 (C : CT) (k : Nat) : ds C k c196 (sQ196 C k) = fun e h => (sK196 C k (e 0) (e 1) h) := by kernel_rfl
def SF196 : SF := fun C k a h => match a with
  | [a0, a1] => sK196 C k a0 a1 h
  | _ => .no
theorem so196 : SOK IP 196 SF196 := ⟨ir196, ip196, by kernel_rfl, fun C k a h => by
  unfold SF196
  split
  · exact .inr ⟨by kernel_rfl, Eq.symm (Eq.trans (congrFun (congrFun (sp196 C k) _) h) rfl)⟩
  · exact .inl rfl⟩
theorem ip232 : IP 232 = some ir232 := rfl
def sQ232 (C : Nat → List S → SH → Tree) (k : Nat) : X → ES → SH → Tree := QrS k rs232
def sT232_1 (C : CT) (k : Nat) (x58 x59 : S) (h : SH) : Tree := (kK (C 300 [x58, x59] h) (fun v2 h3 => (Tree.leaf (S.tup []) h3)))
def sT232_2 (C : CT) (k : Nat) (x3 x55 x56 : S) (h : SH) : Tree := (kB k (fun h1 => sIa 1 x55 x56 (SH.pc h1)) (fun v2 h3 => (kB k (fun h4 => sLd1 v2 h4) (fun v5 h6 => (kB k (fun h7 => sLdA 11 x3 h7) (fun v8 h9 => (sT232_1 C k v5 v8 h9)) h6)) h3)) h)
def sT232_3 (C : CT) (k : Nat) (x0 x3 x7 : S) (h : SH) : Tree := (kB k (fun h3 => sLdA 11 x3 h3) (fun v4 h5 => (kK (C 298 [v4, (S.i .i64 (.lit 2)), x7] h5) (fun v9 h10 => (kK (C 100 [x0, v9] h10) (fun v12 h13 => (Tree.leaf (S.tup []) h13)))))) h)
def sT232_4 (C : CT) (k : Nat) (x0 x3 : S) (h : SH) : Tree := (kB k (fun h3 => sLdA 11 x3 h3) (fun v4 h5 => (kK (C 298 [v4, (S.i .i64 (.lit 7)), (S.i .u32 (.lit 1))] h5) (fun v7 h8 => (kK (C 100 [x0, v7] h8) (fun v10 h11 => (Tree.leaf (S.tup []) h11)))))) h)
def sT232_5 (C : CT) (k : Nat) (x0 x3 x63 x70 : S) (h : SH) : Tree := (kB k (fun h1 => sExt x63 1) (fun v2 h3 => (kB k (fun h4 => sExt x63 2) (fun v5 h6 => (kB k (gd v5 true uS (fun h17 => Res.ok v2)) (fun v18 h19 => (kB k (fun h20 => sPick v5 v18 (S.b false) (SH.pc h20)) (fun v21 h22 => (kS v21 (fun h23 => (sT232_3 C k x0 x3 x70 h23)) (fun h24 => (sT232_4 C k x0 x3 h24)) h22)) h19)) h6)) h3)) h)
def sT232_6 (C : CT) (k : Nat) (x0 x3 x67 : S) (h : SH) : Tree := (kB k (fun h1 => sLdA 11 x3 h1) (fun v2 h3 => (kK (C 301 [x67, v2] h3) (fun v5 h6 => (kB k (fun h9 => sExt v5 0) (fun v10 h11 => (sT232_5 C k x0 x3 v5 v10 h11)) h6)))) h)
def sT232_7 (C : CT) (k : Nat) (x0 x3 : S) (h : SH) : Tree := (kB k (fun h3 => sLdA 11 x3 h3) (fun v4 h5 => (kK (C 298 [v4, (S.i .i64 (.lit 7)), (S.i .u32 (.lit 3))] h5) (fun v7 h8 => (kK (C 100 [x0, v7] h8) (fun v10 h11 => (Tree.leaf (S.tup []) h11)))))) h)
def sT232_8 (C : CT) (k : Nat) (x0 x3 : S) (h : SH) : Tree := (kB k (fun h3 => sNilc x0) (fun v4 h5 => (kB k (fun h6 => sFa 5 v4) (fun v7 h8 => (kB k (fun h9 => sLd1 v7 h9) (fun v10 h11 => (sT232_6 C k x0 x3 v10 h11)) h8)) h5)) h)
def sT232_9 (C : CT) (k : Nat) (x0 x3 x49 : S) (h : SH) : Tree := (kB k (fun h1 => sBin .eql x49 (S.i .i64 (.lit 4)) (SH.pc h1)) (fun v2 h3 => (kS v2 (fun h6 => (sT232_7 C k x0 x3 h6)) (fun h7 => (Tree.leaf (S.tup []) h7)) h3)) h)
def sT232_10 (C : CT) (k : Nat) (x0 x3 x6 : S) (h : SH) : Tree := (kB k (fun h3 => sNilc x0) (fun v4 h5 => (kB k (fun h6 => sFa 4 v4) (fun v7 h8 => (kB k (fun h9 => sLd1 v7 h9) (fun v10 h11 => (sT232_2 C k x3 v10 x6 h11)) h8)) h5)) h)
def sT232_11 (C : CT) (k : Nat) (x0 x3 x49 : S) (h : SH) : Tree := (kB k (fun h1 => sBin .eql x49 (S.i .i64 (.lit 3)) (SH.pc h1)) (fun v2 h3 => (kS v2 (fun h6 => (sT232_8 C k x0 x3 h6)) (fun h7 => (sT232_9 C k x0 x3 x49 h7)) h3)) h)
def sT232_12 (C : CT) (k : Nat) (x0 x3 x6 x47 : S) (h : SH) : Tree := (kB k (fun h1 => sLdA 11 x3 h1) (fun v2 h3 => (kK (C 299 [x47, v2] h3) (fun v5 h6 => (kB k (fun h7 => sBin .eql v5 (S.i .i64 (.lit 0)) (SH.pc h7)) (fun v8 h9 => (kS v8 (fun h12 => (sT232_10 C k x0 x3 x6 h12)) (fun h13 => (sT232_11 C k x0 x3 v5 h13)) h9)) h6)))) h)
def sT232_13 (C : CT) (k : Nat) (x0 x3 : S) (h : SH) : Tree := (kB k (fun h3 => sLdA 11 x3 h3) (fun v4 h5 => (kK (C 298 [v4, (S.i .i64 (.lit 7)), (S.i .u32 (.lit 3))] h5) (fun v7 h8 => (kK (C 100 [x0, v7] h8) (fun v10 h11 => (Tree.leaf (S.tup []) h11)))))) h)
def sT232_14 (C : CT) (k : Nat) (x0 x3 x6 x35 x37 : S) (h : SH) : Tree := (kB k (gd x35 true uS (fun h1 => sUn .not x37 (SH.pc h1))) (fun v2 h3 => (kB k (fun h4 => sPick x35 v2 (S.b false) (SH.pc h4)) (fun v5 h6 => (kS v5 (fun h7 => (sT232_13 C k x0 x3 h7)) (fun h8 => (kB k (fun h11 => sNilc x0) (fun v12 h13 => (kB k (fun h14 => sFa 5 v12) (fun v15 h16 => (kB k (fun h17 => sLd1 v15 h17) (fun v18 h19 => (sT232_12 C k x0 x3 x6 v18 h19)) h16)) h13)) h8)) h6)) h3)) h)
def sT232_15 (C : CT) (k : Nat) (x0 x3 : S) (h : SH) : Tree := (kB k (fun h3 => sLdA 11 x3 h3) (fun v4 h5 => (kK (C 298 [v4, (S.i .i64 (.lit 7)), (S.i .u32 (.lit 3))] h5) (fun v7 h8 => (kK (C 100 [x0, v7] h8) (fun v10 h11 => (Tree.leaf (S.tup []) h11)))))) h)
def sT232_16 (C : CT) (k : Nat) (x0 x3 x6 x20 x24 x25 : S) (h : SH) : Tree := (kK (kG x20 true (fun h1 => C 297 [x24, x25] h1) h) (fun v2 h3 => (kB k (gd x20 true uS (fun h4 => sBin .eql v2 (S.i .i64 (.lit 0)) (SH.pc h4))) (fun v5 h6 => (kB k (fun h7 => sPick x20 v5 (S.b false) (SH.pc h7)) (fun v8 h9 => (kS v8 (fun h10 => (sT232_15 C k x0 x3 h10)) (fun h11 => (kB k (fun h14 => sBin .lss x6 (S.i .i64 (.lit 0)) (SH.pc h14)) (fun v15 h16 => (kB k (gd v15 true uS (fun h19 => sFa 7 x3)) (fun v20 h21 => (kB k (gd v15 true uS (fun h22 => sLd1 v20 h22)) (fun v23 h24 => (sT232_14 C k x0 x3 x6 v15 v23 h24)) h21)) h16)) h11)) h9)) h6)) h3)))
def sT232_17 (C : CT) (k : Nat) (x0 x3 x6 x20 x22 : S) (h : SH) : Tree := (kB k (gd x20 true uS (fun h1 => sFa 5 x22)) (fun v2 h3 => (kB k (gd x20 true uS (fun h4 => sLd1 v2 h4)) (fun v5 h6 => (kB k (gd x20 true uS (fun h7 => sLdA 11 x3 h7)) (fun v8 h9 => (sT232_16 C k x0 x3 x6 x20 v5 v8 h9)) h6)) h3)) h)
def sK232 (C : CT) (k : Nat) (x0 x1 : S) (h : SH) : Tree := (kB k (fun h1 => sBox x1 h1) (fun r3 _ => (kK (C 290 [x0] r3.2) (fun v7 h8 => (kB k (fun h11 => sExt v7 0) (fun v12 h13 => (kB k (fun h14 => sExt v7 1) (fun v15 h16 => (kK (C 296 [v12, v15] h16) (fun v26 h27 => (kB k (fun h32 => sBin .lss v26 (S.i .i64 (.lit 0)) (SH.pc h32)) (fun v33 h34 => (kB k (gd v33 true uS (fun h37 => Res.ok x0)) (fun v38 h39 => (kB k (gd v33 true uS (fun h40 => sNilc v38)) (fun v41 h42 => (sT232_17 C k x0 r3.1 v26 v33 v41 h42)) h39)) h34)) h27)))) h13)) h8)))) h)
theorem sp232 (C : CT) (k : Nat) : ds C k c232 (sQ232 C k) = fun e h => (sK232 C k (e 0) (e 1) h) := by kernel_rfl
def SF232 : SF := fun C k a h => match a with
  | [a0, a1] => sK232 C k a0 a1 h
  | _ => .no
theorem so232 : SOK IP 232 SF232 := ⟨ir232, ip232, by kernel_rfl, fun C k a h => by
  unfold SF232
  split
  · exact .inr ⟨by kernel_rfl, Eq.symm (Eq.trans (congrFun (congrFun (sp232 C k) _) h) rfl)⟩
  · exact .inl rfl⟩
theorem ip236 : IP 236 = some ir236 := rfl
def sQ236 (C : Nat → List S → SH → Tree) (k : Nat) : X → ES → SH → Tree := QrS k rs236
def sQ236_1 (C : CT) (k : Nat) : X → ES → SH → Tree := (sQ236 C k)
def sK236_1 (C : CT) (k : Nat) (h : SH) : Tree := (Tree.leaf (S.i .i64 (.lit (-1))) h)
def sJ236_1 (C : CT) (k : Nat) : ES → SH → Tree := fun e h => (sK236_1 C k h)
theorem sp236_1 (C : CT) (k : Nat) : ds C k c236_1 (sQ236_1 C k) = (sJ236_1 C k) := by kernel_rfl
def sR236_2 (C : CT) (k : Nat) : X → ES → SH → Tree := (QbS 0 (QxS (sJ236_1 C k) (sQ236 C k)))
def sQ236_2 (C : CT) (k : Nat) (g236_2 : S → S → S → S → SH → Tree) : X → ES → SH → Tree := QxS (fun e h => g236_2 (e 0) (e 1) (e 7) (e 8) h) (sR236_2 C k)
def sL236_2 (C : CT) (k : Nat) (g236_2 : S → S → S → S → SH → Tree) (x0 x1 x7 x8 : S) (h : SH) : Tree := (kB k (fun h1 => sBin .lss x8 x7 (SH.pc h1)) (fun v2 h3 => (kS v2 (fun h4 => (kB k (fun h16 => sIa 7 x0 x8 (SH.pc h16)) (fun v17 h18 => (kB k (fun h19 => sLdA 7 v17 h19) (fun v20 h21 => (kK (kV C x1 [v20] h21) (fun v23 h24 => (kS v23 (fun h25 => (Tree.leaf x8 h25)) (fun h26 => (kB k (fun h31 => sBin .add x8 (S.i .i64 (.lit 1)) (SH.pc h31)) (fun v32 h33 => (g236_2 x0 x1 x7 v32 h33)) h26)) h24)))) h18)) h4)) (fun h5 => (sK236_1 C k h5)) h3)) h)
theorem sp236_2 (C : CT) (k : Nat) (g236_2 : S → S → S → S → SH → Tree) : ds C k c236_2 (sQ236_2 C k g236_2) = fun e h => (sL236_2 C k g236_2 (e 0) (e 1) (e 7) (e 8) h) := by kernel_rfl
def sW236_2 (C : CT) (k : Nat) (x0 x1 x7 x8 : S) (h : SH) : Tree := kFix k (fun (g : S × S × S × S × Unit → SH → Tree) (x : S × S × S × S × Unit) h => sL236_2 C k (fun y0 y1 y7 y8 h => g (y0, y1, y7, y8, ()) h) x.1 x.2.1 x.2.2.1 x.2.2.2.1 h) (x0, x1, x7, x8, ()) h
theorem sn236_2 (C : CT) (k : Nat) : ∀ g : S × S × S × S × Unit → SH → Tree, ds C k c236_2 (QxS (fun e h => g ((fun e : ES => ((e 0, e 1, e 7, e 8, ()) : S × S × S × S × Unit)) e) h) (sR236_2 C k)) = fun e h => (fun (g : S × S × S × S × Unit → SH → Tree) (x : S × S × S × S × Unit) h => sL236_2 C k (fun y0 y1 y7 y8 h => g (y0, y1, y7, y8, ()) h) x.1 x.2.1 x.2.2.1 x.2.2.2.1 h) g ((fun e : ES => ((e 0, e 1, e 7, e 8, ()) : S × S × S × S × Unit)) e) h := fun g => sp236_2 C k (fun y0 y1 y7 y8 h => g (y0, y1, y7, y8, ()) h)
theorem sw236_2 (C : CT) (k : Nat) : ds C k (.loop c236_2) (sR236_2 C k) = fun e h => (sW236_2 C k (e 0) (e 1) (e 7) (e 8) h) := sloop_eq (fun e : ES => ((e 0, e 1, e 7, e 8, ()) : S × S × S × S × Unit)) (fun (g : S × S × S × S × Unit → SH → Tree) (x : S × S × S × S × Unit) h => sL236_2 C k (fun y0 y1 y7 y8 h => g (y0, y1, y7, y8, ()) h) x.1 x.2.1 x.2.2.1 x.2.2.2.1 h) (sn236_2 C k)
def sK236 (C : CT) (k : Nat) (x0 x1 : S) (h : SH) : Tree := (kB k (fun h5 => sLens x0) (fun v6 h7 => (sW236_2 C k x0 x1 v6 (S.i .i64 (.lit 0)) h7)) h)
theorem sp236 (C : CT) (k : Nat) : ds C k c236 (sQ236 C k) = fun e h => (sK236 C k (e 0) (e 1) h) := by
  refine Eq.trans (sseq_eq (sseq_eq (sp236_1 C k) (sseq_eq (sblock_eq (sw236_2 C k)) rfl)) rfl) ?_
  kernel_rfl
def SF236 : SF := fun C k a h => match a with
  | [a0, a1] => sK236 C k a0 a1 h
  | _ => .no
theorem so236 : SOK IP 236 SF236 := ⟨ir236, ip236, by kernel_rfl, fun C k a h => by
  unfold SF236
  split
  · exact .inr ⟨by kernel_rfl, Eq.symm (Eq.trans (congrFun (congrFun (sp236 C k) _) h) rfl)⟩
  · exact .inl rfl⟩
theorem ip237 : IP 237 = some ir237 := rfl
def sQ237 (C : Nat → List S → SH → Tree) (k : Nat) : X → ES → SH → Tree := QrS k rs237
def sT237_1 (C : CT) (k : Nat) (x5 x7 x9 : S) (h : SH) : Tree := (kB k (fun h1 => sBld [(.i .i64 0), (.i .u32 0)] [(0, 1, x7), (1, 1, x9)]) (fun v2 h3 => (kB k (fun h4 => sEqa false [.i, .i] x5 v2 (SH.pc h4)) (fun v5 h6 => (Tree.leaf v5 h6)) h3)) h)
def sT237_2 (C : CT) (k : Nat) (x1 x5 x6 : S) (h : SH) : Tree := (kB k (fun h1 => sLd1 x6 h1) (fun v2 h3 => (kB k (fun h4 => sFa 5 x1) (fun v5 h6 => (kB k (fun h7 => sLd1 v5 h7) (fun v8 h9 => (sT237_1 C k x5 v2 v8 h9)) h6)) h3)) h)
def sK237 (C : CT) (k : Nat) (x0 x1 : S) (h : SH) : Tree := (kB k (fun h1 => sBox x0 h1) (fun r3 _ => (kB k (fun h6 => sFa 0 r3.1) (fun v7 h8 => (kB k (fun h9 => sLdA 2 v7 h9) (fun v10 h11 => (kB k (fun h12 => sFa 1 x1) (fun v13 h14 => (sT237_2 C k x1 v10 v13 h14)) h11)) h8)) r3.2)) h)
theorem sp237 (C : CT) (k : Nat) : ds C k c237 (sQ237 C k) = fun e h => (sK237 C k (e 0) (e 1) h) := by kernel_rfl
def SF237 : SF := fun C k a h => match a with
  | [a0, a1] => sK237 C k a0 a1 h
  | _ => .no
theorem so237 : SOK IP 237 SF237 := ⟨ir237, ip237, by kernel_rfl, fun C k a h => by
  unfold SF237
  split
  · exact .inr ⟨by kernel_rfl, Eq.symm (Eq.trans (congrFun (congrFun (sp237 C k) _) h) rfl)⟩
  · exact .inl rfl⟩
theorem ip238 : IP 238 = some ir238 := rfl
def sQ238 (C : Nat → List S → SH → Tree) (k : Nat) : X → ES → SH → Tree := QrS k rs238
def sQ238_1 (C : CT) (k : Nat) : X → ES → SH → Tree := (sQ238 C k)
def sK238_1 (C : CT) (k : Nat) (h : SH) : Tree := (Tree.leaf (S.i .i64 (.lit (-1))) h)
def sJ238_1 (C : CT) (k : Nat) : ES → SH → Tree := fun e h => (sK238_1 C k h)
theorem sp238_1 (C : CT) (k : Nat) : ds C k c238_1 (sQ238_1 C k) = (sJ238_1 C k) := by kernel_rfl
def sR238_2 (C : CT) (k : Nat) : X → ES → SH → Tree := (QbS 0 (QxS (sJ238_1 C k) (sQ238 C k)))
def sQ238_2 (C : CT) (k : Nat) (g238_2 : S → S → S → S → SH → Tree) : X → ES → SH → Tree := QxS (fun e h => g238_2 (e 0) (e 1) (e 7) (e 8) h) (sR238_2 C k)
def sL238_2 (C : CT) (k : Nat) (g238_2 : S → S → S → S → SH → Tree) (x0 x1 x7 x8 : S) (h : SH) : Tree := (kB k (fun h1 => sBin .lss x8 x7 (SH.pc h1)) (fun v2 h3 => (kS v2 (fun h4 => (kB k (fun h16 => sIa 1 x0 x8 (SH.pc h16)) (fun v17 h18 => (kB k (fun h19 => sLd1 v17 h19) (fun v20 h21 => (kB k (fun h22 => sBin .eql x1 v20 (SH.pc h22)) (fun v23 h24 => (kS v23 (fun h25 => (Tree.leaf x8 h25)) (fun h26 => (kB k (fun h31 => sBin .add x8 (S.i .i64 (.lit 1)) (SH.pc h31)) (fun v32 h33 => (g238_2 x0 x1 x7 v32 h33)) h26)) h24)) h21)) h18)) h4)) (fun h5 => (sK238_1 C k h5)) h3)) h)
theorem sp238_2 (C : CT) (k : Nat) (g238_2 : S → S → S → S → SH → Tree) : ds C k c238_2 (sQ238_2 C k g238_2) = fun e h => (sL238_2 C k g238_2 (e 0) (e 1) (e 7) (e 8) h) := by kernel_rfl
def sW238_2 (C : CT) (k : Nat) (x0 x1 x7 x8 : S) (h : SH) : Tree := kFix k (fun (g : S × S × S × S × Unit → SH → Tree) (x : S × S × S × S × Unit) h => sL238_2 C k (fun y0 y1 y7 y8 h => g (y0, y1, y7, y8, ()) h) x.1 x.2.1 x.2.2.1 x.2.2.2.1 h) (x0, x1, x7, x8, ()) h
theorem sn238_2 (C : CT) (k : Nat) : ∀ g : S × S × S × S × Unit → SH → Tree, ds C k c238_2 (QxS (fun e h => g ((fun e : ES => ((e 0, e 1, e 7, e 8, ()) : S × S × S × S × Unit)) e) h) (sR238_2 C k)) = fun e h => (fun (g : S × S × S × S × Unit → SH → Tree) (x : S × S × S × S × Unit) h => sL238_2 C k (fun y0 y1 y7 y8 h => g (y0, y1, y7, y8, ()) h) x.1 x.2.1 x.2.2.1 x.2.2.2.1 h) g ((fun e : ES => ((e 0, e 1, e 7, e 8, ()) : S × S × S × S × Unit)) e) h := fun g => sp238_2 C k (fun y0 y1 y7 y8 h => g (y0, y1, y7, y8, ()) h)
theorem sw238_2 (C : CT) (k : Nat) : ds C k (.loop c238_2) (sR238_2 C k) = fun e h => (sW238_2 C k (e 0) (e 1) (e 7) (e 8) h) := sloop_eq (fun e : ES => ((e 0, e 1, e 7, e 8, ()) : S × S × S × S × Unit)) (fun (g : S × S × S × S × Unit → SH → Tree) (x : S × S × S × S × Unit) h => sL238_2 C k (fun y0 y1 y7 y8 h => g (y0, y1, y7, y8, ()) h) x.1 x.2.1 x.2.2.1 x.2.2.2.1 h) (sn238_2 C k)
def sK238 (C : CT) (k : Nat) (x0 x1 : S) (h : SH) : Tree := (kB k (fun h5 => sLens x0) (fun v6 h7 => (sW238_2 C k x0 x1 v6 (S.i .i64 (.lit 0)) h7)) h)
theorem sp238 (C : CT) (k : Nat) : ds C k c238 (sQ238 C k) = fun e h => (sK238 C k (e 0) (e 1) h) := by
  refine Eq.trans (sseq_eq (sseq_eq (sp238_1 C k) (sseq_eq (sblock_eq (sw238_2 C k)) rfl)) rfl) ?_
  kernel_rfl
def SF238 : SF := fun C k a h => match a with
  | [a0, a1] => sK238 C k a0 a1 h
  | _ => .no
theorem so238 : SOK IP 238 SF238 := ⟨ir238, ip238, by kernel_rfl, fun C k a h => by
  unfold SF238
  split
  · exact .inr ⟨by kernel_rfl, Eq.symm (Eq.trans (congrFun (congrFun (sp238 C k) _) h) rfl)⟩
  · exact .inl rfl⟩
theorem ip290 : IP 290 = some ir290 := rfl
def sQ290 (C : Nat → List S → SH → Tree) (k : Nat) : X → ES → SH → Tree := QrS k rs290
def sQ290_1 (C : CT) (k : Nat) : X → ES → SH → Tree := (sQ290 C k)
def sT290_2 (C : CT) (k : Nat) (x22 x26 : S) (h : SH) : Tree := (kB k (fun h1 => sIa 1 x26 (S.i .i64 (.lit 0)) (SH.pc h1)) (fun v2 h3 => (kB k (fun h4 => sLd1 v2 h4) (fun v5 h6 => (kK (C 348 [v5] h6) (fun v8 h9 => (Tree.leaf (S.tup [x22, v8]) h9)))) h3)) h)
def sK290_1 (C : CT) (k : Nat) (x0 x4 : S) (h : SH) : Tree := (kB k (fun h5 => sNilc x0) (fun v6 h7 => (kB k (fun h8 => sFa 4 v6) (fun v9 h10 => (kB k (fun h11 => sLd1 v9 h11) (fun v12 h13 => (sT290_2 C k x4 v12 h13)) h10)) h7)) h)
def sJ290_1 (C : CT) (k : Nat) : ES → SH → Tree := fun e h => (sK290_1 C k (e 0) (e 4) h)
theorem sp290_1 (C : CT) (k : Nat) : ds C k c290_1 (sQ290_1 C k) = (sJ290_1 C k) := by kernel_rfl
def sR290_3 (C : CT) (k : Nat) : X → ES → SH → Tree := (QbS 0 (QxS (sJ290_1 C k) (sQ290 C k)))
def sQ290_3 (C : CT) (k : Nat) (g290_3 : S → S → S → S → S → SH → Tree) : X → ES → SH → Tree := QxS (fun e h => g290_3 (e 0) (e 4) (e 10) (e 11) (e 12) h) (sR290_3 C k)
def sL290_3 (C : CT) (k : Nat) (g290_3 : S → S → S → S → S → SH → Tree) (x0 x4 x10 x11 x12 : S) (h : SH) : Tree := (kB k (fun h1 => sBin .lss x12 x11 (SH.pc h1)) (fun v2 h3 => (kS v2 (fun h4 => (kB k (fun h6 => sIa 1 x10 x12 (SH.pc h6)) (fun v7 h8 => (kB k (fun h9 => sLd1 v7 h9) (fun v10 h11 => (kK (C 302 [v10] h11) (fun v19 h20 => (kB k (fun h21 => sNewSl 1 [(.i .i64 0)] [(0, 1, v19)] h21) (fun r23 _ => (kB k (fun h24 => sApp 1 8 x4 r23.1 h24) (fun r26 _ => (kB k (fun h29 => sBin .add x12 (S.i .i64 (.lit 1)) (SH.pc h29)) (fun v30 h31 => (g290_3 x0 r26.1 x10 x11 v30 h31)) r26.2)) r23.2)) h20)))) h8)) h4)) (fun h5 => (sK290_1 C k x0 x4 h5)) h3)) h)
theorem sp290_3 (C : CT) (k : Nat) (g290_3 : S → S → S → S → S → SH → Tree) : ds C k c290_3 (sQ290_3 C k g290_3) = fun e h => (sL290_3 C k g290_3 (e 0) (e 4) (e 10) (e 11) (e 12) h) := by kernel_rfl
def sW290_3 (C : CT) (k : Nat) (x0 x4 x10 x11 x12 : S) (h : SH) : Tree := kFix k (fun (g : S × S × S × S × S × Unit → SH → Tree) (x : S × S × S × S × S × Unit) h => sL290_3 C k (fun y0 y4 y10 y11 y12 h => g (y0, y4, y10, y11, y12, ()) h) x.1 x.2.1 x.2.2.1 x.2.2.2.1 x.2.2.2.2.1 h) (x0, x4, x10, x11, x12, ()) h
theorem sn290_3 (C : CT) (k : Nat) : ∀ g : S × S × S × S × S × Unit → SH → Tree, ds C k c290_3 (QxS (fun e h => g ((fun e : ES => ((e 0, e 4, e 10, e 11, e 12, ()) : S × S × S × S × S × Unit)) e) h) (sR290_3 C k)) = fun e h => (fun (g : S × S × S × S × S × Unit → SH → Tree) (x : S × S × S × S × S × Unit) h => sL290_3 C k (fun y0 y4 y10 y11 y12 h => g (y0, y4, y10, y11, y12, ()) h) x.1 x.2.1 x.2.2.1 x.2.2.2.1 x.2.2.2.2.1 h) g ((fun e : ES => ((e 0, e 4, e 10, e 11, e 12, ()) : S × S × S × S × S × Unit)) e) h := fun g => sp290_3 C k (fun y0 y4 y10 y11 y12 h => g (y0, y4, y10, y11, y12, ()) h)
theorem sw290_3 (C : CT) (k : Nat) : ds C k (.loop c290_3) (sR290_3 C k) = fun e h => (sW290_3 C k (e 0) (e 4) (e 10) (e 11) (e 12) h) := sloop_eq (fun e : ES => ((e 0, e 4, e 10, e 11, e 12, ()) : S × S × S × S × S × Unit)) (fun (g : S × S × S × S × S × Unit → SH → Tree) (x : S × S × S × S × S × Unit) h => sL290_3 C k (fun y0 y4 y10 y11 y12 h => g (y0, y4, y10, y11, y12, ()) h) x.1 x.2.1 x.2.2.1 x.2.2.2.1 x.2.2.2.2.1 h) (sn290_3 C k)
def sT290_4 (C : CT) (k : Nat) (x0 x4 x10 : S) (h : SH) : Tree := (kB k (fun h1 => sLens x10) (fun v2 h3 => (sW290_3 C k x0 x4 x10 v2 (S.i .i64 (.lit 0)) h3)) h)
def sK290 (C : CT) (k : Nat) (x0 : S) (h : SH) : Tree := (kB k (fun h9 => sNilc x0) (fun v10 h11 => (kB k (fun h12 => sFa 4 v10) (fun v13 h14 => (kB k (fun h15 => sLd1 v13 h15) (fun v16 h17 => (sT290_4 C k x0 S.nsl v16 h17)) h14)) h11)) h)
theorem sp290 (C : CT) (k : Nat) : ds C k c290 (sQ290 C k) = fun e h => (sK290 C k (e 0) h) := by
  refine Eq.trans (sseq_eq (sseq_eq (sseq_eq (sp290_1 C k) (sseq_eq (sblock_eq (sw290_3 C k)) rfl)) rfl) rfl) ?_
  kernel_rfl
def SF290 : SF := fun C k a h => match a with
  | [a0] => sK290 C k a0 h
  | _ => .no
theorem so290 : SOK IP 290 SF290 := ⟨ir290, ip290, by kernel_rfl, fun C k a h => by
  unfold SF290
  split
  · exact .inr ⟨by kernel_rfl, Eq.symm (Eq.trans (congrFun (congrFun (sp290 C k) _) h) rfl)⟩
  · exact .inl rfl⟩
theorem ip296 : IP 296 = some ir296 := rfl
def sQ296 (C : Nat → List S → SH → Tree) (k : Nat) : X → ES → SH → Tree := QrS k rs296
def sQ296_1 (C : CT) (k : Nat) : X → ES → SH → Tree := (sQ296 C k)
def sK296_1 (C : CT) (k : Nat) (x5 : S) (h : SH) : Tree := (Tree.leaf x5 h)
def sJ296_1 (C : CT) (k : Nat) : ES → SH → Tree := fun e h => (sK296_1 C k (e 5) h)
theorem sp296_1 (C : CT) (k : Nat) : ds C k c296_1 (sQ296_1 C k) = (sJ296_1 C k) := by kernel_rfl
def sR296_2 (C : CT) (k : Nat) : X → ES → SH → Tree := (QbS 0 (QxS (sJ296_1 C k) (sQ296 C k)))
def sQ296_2 (C : CT) (k : Nat) (g296_2 : S → S → S → S → S → S → SH → Tree) : X → ES → SH → Tree := QxS (fun e h => g296_2 (e 0) (e 1) (e 5) (e 8) (e 9) (e 10) h) (sR296_2 C k)
def sQ296_3 (C : CT) (k : Nat) (g296_2 : S → S → S → S → S → S → SH → Tree) : X → ES → SH → Tree := (sQ296_2 C k g296_2)
def sK296_3 (C : CT) (k : Nat) (g296_2 : S → S → S → S → S → S → SH → Tree) (x0 x1 x5 x8 x9 x10 : S) (h : SH) : Tree := (kB k (fun h1 => sBin .add x10 (S.i .i64 (.lit 1)) (SH.pc h1)) (fun v2 h3 => (g296_2 x0 x1 x5 x8 x9 v2 h3)) h)
def sJ296_3 (C : CT) (k : Nat) (g296_2 : S → S → S → S → S → S → SH → Tree) : ES → SH → Tree := fun e h => (sK296_3 C k g296_2 (e 0) (e 1) (e 5) (e 8) (e 9) (e 10) h)
theorem sp296_3 (C : CT) (k : Nat) (g296_2 : S → S → S → S → S → S → SH → Tree) : ds C k c296_3 (sQ296_3 C k g296_2) = (sJ296_3 C k g296_2) := by kernel_rfl
def sT296_4 (C : CT) (k : Nat) (g296_2 : S → S → S → S → S → S → SH → Tree) (x0 x1 x5 x6 x8 x9 x10 x18 x21 x22 x26 : S) (h : SH) : Tree := (kB k (gd x21 false uS (fun h1 => sBin .lss x22 x26 (SH.pc h1))) (fun v2 h3 => (kB k (gd x18 true uS (fun h4 => sPick x21 (S.b true) v2 (SH.pc h4))) (fun v5 h6 => (kB k (fun h7 => sPick x18 v5 (S.b false) (SH.pc h7)) (fun v8 h9 => (kS v8 (fun h10 => (sK296_3 C k g296_2 x0 x1 x6 x8 x9 x10 h10)) (fun h11 => (sK296_3 C k g296_2 x0 x1 x5 x8 x9 x10 h11)) h9)) h6)) h3)) h)
def sT296_5 (C : CT) (k : Nat) (g296_2 : S → S → S → S → S → S → SH → Tree) (x0 x1 x5 x6 x8 x9 x10 x18 x21 x22 x23 : S) (h : SH) : Tree := (kB k (gd x21 false uS (fun h1 => Res.ok x5)) (fun v2 h3 => (kB k (gd x21 false uS (fun h4 => sIa 1 x23 v2 (SH.pc h4))) (fun v5 h6 => (kB k (gd x21 false uS (fun h7 => sLd1 v5 h7)) (fun v8 h9 => (sT296_4 C k g296_2 x0 x1 x5 x6 x8 x9 x10 x18 x21 x22 v8 h9)) h6)) h3)) h)
def sT296_6 (C : CT) (k : Nat) (g296_2 : S → S → S → S → S → S → SH → Tree) (x0 x1 x5 x6 x7 x8 x9 x10 x18 x20 : S) (h : SH) : Tree := (kB k (gd x18 true uS (fun h1 => Res.ok x20)) (fun v2 h3 => (kB k (gd v2 false uS (fun h4 => Res.ok x7)) (fun v5 h6 => (kB k (gd v2 false uS (fun h7 => Res.ok x0)) (fun v8 h9 => (sT296_5 C k g296_2 x0 x1 x5 x6 x8 x9 x10 x18 v2 v5 v8 h9)) h6)) h3)) h)
def sL296_2 (C : CT) (k : Nat) (g296_2 : S → S → S → S → S → S → SH → Tree) (x0 x1 x5 x8 x9 x10 : S) (h : SH) : Tree := (kB k (fun h1 => sBin .lss x10 x9 (SH.pc h1)) (fun v2 h3 => (kS v2 (fun h4 => (kB k (fun h8 => sIa 1 x8 x10 (SH.pc h8)) (fun v9 h10 => (kB k (fun h11 => sLd1 v9 h11) (fun v12 h13 => (kB k (fun h22 => sBin .lss v12 x1 (SH.pc h22)) (fun v23 h24 => (kB k (gd v23 true uS (fun h27 => Res.ok x5)) (fun v28 h29 => (kB k (gd v23 true uS (fun h30 => sBin .lss v28 (S.i .i64 (.lit 0)) (SH.pc h30))) (fun v31 h32 => (sT296_6 C k g296_2 x0 x1 x5 x10 v12 x8 x9 x10 v23 v31 h32)) h29)) h24)) h13)) h10)) h4)) (fun h5 => (sK296_1 C k x5 h5)) h3)) h)
theorem sp296_2 (C : CT) (k : Nat) (g296_2 : S → S → S → S → S → S → SH → Tree) : ds C k c296_2 (sQ296_2 C k g296_2) = fun e h => (sL296_2 C k g296_2 (e 0) (e 1) (e 5) (e 8) (e 9) (e 10) h) := by
  refine Eq.trans (sseq_eq (sseq_eq (sseq_eq (sp296_3 C k g296_2) rfl) rfl) rfl) ?_
  kernel_rfl
def sW296_2 (C : CT) (k : Nat) (x0 x1 x5 x8 x9 x10 : S) (h : SH) : Tree := kFix k (fun (g : S × S × S × S × S × S × Unit → SH → Tree) (x : S × S × S × S × S × S × Unit) h => sL296_2 C k (fun y0 y1 y5 y8 y9 y10 h => g (y0, y1, y5, y8, y9, y10, ()) h) x.1 x.2.1 x.2.2.1 x.2.2.2.1 x.2.2.2.2.1 x.2.2.2.2.2.1 h) (x0, x1, x5, x8, x9, x10, ()) h
theorem sn296_2 (C : CT) (k : Nat) : ∀ g : S × S × S × S × S × S × Unit → SH → Tree, ds C k c296_2 (QxS (fun e h => g ((fun e : ES => ((e 0, e 1, e 5, e 8, e 9, e 10, ()) : S × S × S × S × S × S × Unit)) e) h) (sR296_2 C k)) = fun e h => (fun (g : S × S × S × S × S × S × Unit → SH → Tree) (x : S × S × S × S × S × S × Unit) h => sL296_2 C k (fun y0 y1 y5 y8 y9 y10 h => g (y0, y1, y5, y8, y9, y10, ()) h) x.1 x.2.1 x.2.2.1 x.2.2.2.1 x.2.2.2.2.1 x.2.2.2.2.2.1 h) g ((fun e : ES => ((e 0, e 1, e 5, e 8, e 9, e 10, ()) : S × S × S × S × S × S × Unit)) e) h := fun g => sp296_2 C k (fun y0 y1 y5 y8 y9 y10 h => g (y0, y1, y5, y8, y9, y10, ()) h)
theorem sw296_2 (C : CT) (k : Nat) : ds C k (.loop c296_2) (sR296_2 C k) = fun e h => (sW296_2 C k (e 0) (e 1) (e 5) (e 8) (e 9) (e 10) h) := sloop_eq (fun e : ES => ((e 0, e 1, e 5, e 8, e 9, e 10, ()) : S × S × S × S × S × S × Unit)) (fun (g : S × S × S × S × S × S × Unit → SH → Tree) (x : S × S × S × S × S × S × Unit) h => sL296_2 C k (fun y0 y1 y5 y8 y9 y10 h => g (y0, y1, y5, y8, y9, y10, ()) h) x.1 x.2.1 x.2.2.1 x.2.2.2.1 x.2.2.2.2.1 x.2.2.2.2.2.1 h) (sn296_2 C k)
def sK296 (C : CT) (k : Nat) (x0 x1 : S) (h : SH) : Tree := (kB k (fun h7 => sLens x0) (fun v8 h9 => (sW296_2 C k x0 x1 (S.i .i64 (.lit (-1))) x0 v8 (S.i .i64 (.lit 0)) h9)) h)
theorem sp296 (C : CT) (k : Nat) : ds C k c296 (sQ296 C k) = fun e h => (sK296 C k (e 0) (e 1) h) := by
  refine Eq.trans (sseq_eq (sseq_eq (sseq_eq (sp296_1 C k) (sseq_eq (sblock_eq (sw296_2 C k)) rfl)) rfl) rfl) ?_
  kernel_rfl
def SF296 : SF := fun C k a h => match a with
  | [a0, a1] => sK296 C k a0 a1 h
  | _ => .no
theorem so296 : SOK IP 296 SF296 := ⟨ir296, ip296, by kernel_rfl, fun C k a h => by
  unfold SF296
  split
  · exact .inr ⟨by kernel_rfl, Eq.symm (Eq.trans (congrFun (congrFun (sp296 C k) _) h) rfl)⟩
  · exact .inl rfl⟩
theorem ip299 : IP 299 = some ir299 := rfl
def sQ299 (C : Nat → List S → SH → Tree) (k : Nat) : X → ES → SH → Tree := QrS k rs299
def sT299_1 (C : CT) (k : Nat) (x85 x87 : S) (h : SH) : Tree := (kB k (fun h1 => sStore 1 x87 x85 h1) (fun r3 _ => (Tree.leaf (S.i .i64 (.lit 0)) r3.2)) h)
def sT299_2 (C : CT) (k : Nat) (x81 x84 : S) (h : SH) : Tree := (kB k (fun h1 => sBin .add x84 (S.i .i64 (.lit 1)) (SH.pc h1)) (fun v2 h3 => (kB k (fun h4 => sNilc x81) (fun v5 h6 => (kB k (fun h7 => sFa 3 v5) (fun v8 h9 => (sT299_1 C k v2 v8 h9)) h6)) h3)) h)
def sT299_3 (C : CT) (k : Nat) (x6 : S) (h : SH) : Tree := (kB k (fun h3 => sNilc x6) (fun v4 h5 => (kB k (fun h6 => sFa 3 v4) (fun v7 h8 => (kB k (fun h9 => sLd1 v7 h9) (fun v10 h11 => (sT299_2 C k x6 v10 h11)) h8)) h5)) h)
def sT299_4 (C : CT) (k : Nat) (x6 : S) (h : SH) : Tree := (kB k (fun h3 => sNilc x6) (fun v4 h5 => (kB k (fun h6 => sFa 4 v4) (fun v7 h8 => (kB k (fun h9 => sLd1 v7 h9) (fun v10 h11 => (kS v10 (fun h14 => (Tree.leaf (S.i .i64 (.lit 3)) h14)) (fun h15 => (Tree.leaf (S.i .i64 (.lit 2)) h15)) h11)) h8)) h5)) h)
def sT299_5 (C : CT) (k : Nat) (x3 x6 x74 x76 : S) (h : SH) : Tree := (kB k (fun h1 => sStore 1 x76 x74 h1) (fun r3 _ => (kB k (fun h4 => sFa 7 x3) (fun v5 h6 => (kB k (fun h7 => sLd1 v5 h7) (fun v8 h9 => (kB k (fun h10 => sUn .not v8 (SH.pc h10)) (fun v11 h12 => (kS v11 (fun h15 => (sT299_3 C k x6 h15)) (fun h16 => (sT299_4 C k x6 h16)) h12)) h9)) h6)) r3.2)) h)
def sT299_6 (C : CT) (k : Nat) (x3 x6 x67 x70 x73 : S) (h : SH) : Tree := (kB k (fun h1 => sBin .or x70 x73 (SH.pc h1)) (fun v2 h3 => (kB k (fun h4 => sNilc x67) (fun v5 h6 => (kB k (fun h7 => sFa 2 v5) (fun v8 h9 => (sT299_5 C k x3 x6 v2 v8 h9)) h6)) h3)) h)
def sT299_7 (C : CT) (k : Nat) (x3 x6 x67 x70 : S) (h : SH) : Tree := (kB k (fun h1 => sFa 6 x3) (fun v2 h3 => (kB k (fun h4 => sLd1 v2 h4) (fun v5 h6 => (kB k (fun h7 => sBin .shl (S.i .i64 (.lit 1)) v5 (SH.pc h7)) (fun v8 h9 => (sT299_6 C k x3 x6 x67 x70 v8 h9)) h6)) h3)) h)
def sT299_8 (C : CT) (k : Nat) (x3 x6 x64 : S) (h : SH) : Tree := (kB k (fun h1 => sBin .and x64 (S.i .i64 (.lit 1)) (SH.pc h1)) (fun v2 h3 => (kB k (fun h4 => sBin .eql v2 (S.i .i64 (.lit 1)) (SH.pc h4)) (fun v5 h6 => (kS v5 (fun h7 => (Tree.leaf (S.i .i64 (.lit 1)) h7)) (fun h8 => (kB k (fun h13 => sNilc x6) (fun v14 h15 => (kB k (fun h16 => sFa 2 v14) (fun v17 h18 => (kB k (fun h19 => sLd1 v17 h19) (fun v20 h21 => (sT299_7 C k x3 x6 x6 v20 h21)) h18)) h15)) h8)) h6)) h3)) h)
def sT299_9 (C : CT) (k : Nat) (x3 x6 x61 : S) (h : SH) : Tree := (kB k (fun h1 => sFa 6 x3) (fun v2 h3 => (kB k (fun h4 => sLd1 v2 h4) (fun v5 h6 => (kB k (fun h7 => sBin .shr x61 v5 (SH.pc h7)) (fun v8 h9 => (sT299_8 C k x3 x6 v8 h9)) h6)) h3)) h)
def sT299_10 (C : CT) (k : Nat) (x3 x55 x56 : S) (h : SH) : Tree := (kB k (fun h1 => sIa 7 x55 x56 (SH.pc h1)) (fun v2 h3 => (kB k (fun h8 => sNilc v2) (fun v9 h10 => (kB k (fun h11 => sFa 2 v9) (fun v12 h13 => (kB k (fun h14 => sLd1 v12 h14) (fun v15 h16 => (sT299_9 C k x3 v2 v15 h16)) h13)) h10)) h3)) h)
def sT299_11 (C : CT) (k : Nat) (x49 x50 : S) (h : SH) : Tree := (kB k (fun h1 => sFa 1 x50) (fun v2 h3 => (kB k (fun h4 => sStore 1 v2 x49 h4) (fun r6 _ => (Tree.leaf (S.i .i64 (.lit 0)) r6.2)) h3)) h)
def sT299_12 (C : CT) (k : Nat) (x34 x38 x47 : S) (h : SH) : Tree := (kB k (fun h1 => sNewSl 1 [(.i .i64 0), (.i .u32 0), (.i .i64 0), (.i .i64 0), (.b false), (.b false), (.i .u32 0)] [(0, 7, x47)] h1) (fun r3 _ => (kB k (fun h4 => sApp 7 40 x38 r3.1 h4) (fun r6 _ => (kB k (fun h7 => sNilc x34) (fun v8 h9 => (sT299_11 C k r6.1 v8 h9)) r6.2)) r3.2)) h)
def sT299_13 (C : CT) (k : Nat) (x34 x38 x43 x44 : S) (h : SH) : Tree := (kB k (fun h1 => sLd1 x44 h1) (fun v2 h3 => (kB k (fun h4 => sBin .shl (S.i .i64 (.lit 1)) v2 (SH.pc h4)) (fun v5 h6 => (kB k (fun h7 => sBld [(.i .i64 0), (.i .u32 0), (.i .i64 0), (.i .i64 0), (.b false), (.b false), (.i .u32 0)] [(0, 2, x43), (2, 1, v5), (3, 1, (S.i .i64 (.lit 1)))]) (fun v8 h9 => (sT299_12 C k x34 x38 v8 h9)) h6)) h3)) h)
def sT299_14 (C : CT) (k : Nat) (x3 x34 x38 x40 x41 : S) (h : SH) : Tree := (kB k (fun h1 => sLd1 x41 h1) (fun v2 h3 => (kB k (fun h4 => sBld [(.i .i64 0), (.i .u32 0)] [(0, 1, x40), (1, 1, v2)]) (fun v5 h6 => (kB k (fun h7 => sFa 6 x3) (fun v8 h9 => (sT299_13 C k x34 x38 v5 v8 h9)) h6)) h3)) h)
def sT299_15 (C : CT) (k : Nat) (x3 x34 x38 : S) (h : SH) : Tree := (kB k (fun h1 => sFa 1 x3) (fun v2 h3 => (kB k (fun h4 => sLd1 v2 h4) (fun v5 h6 => (kB k (fun h7 => sFa 5 x3) (fun v8 h9 => (sT299_14 C k x3 x34 x38 v5 v8 h9)) h6)) h3)) h)
def sT299_16 (C : CT) (k : Nat) (x0 x3 x28 x31 : S) (h : SH) : Tree := (kB k (fun h1 => sLd1 x31 h1) (fun v2 h3 => (kB k (fun h4 => sBin .geq x28 v2 (SH.pc h4)) (fun v5 h6 => (kS v5 (fun h7 => (Tree.leaf (S.i .i64 (.lit 4)) h7)) (fun h8 => (kB k (fun h15 => sNilc x0) (fun v16 h17 => (kB k (fun h18 => sFa 1 v16) (fun v19 h20 => (kB k (fun h21 => sLd1 v19 h21) (fun v22 h23 => (sT299_15 C k x3 x0 v22 h23)) h20)) h17)) h8)) h6)) h3)) h)
def sT299_17 (C : CT) (k : Nat) (x0 x3 x27 : S) (h : SH) : Tree := (kB k (fun h1 => sLens x27) (fun v2 h3 => (kB k (fun h6 => sNilc x0) (fun v7 h8 => (kB k (fun h9 => sFa 0 v7) (fun v10 h11 => (sT299_16 C k x0 x3 v2 v10 h11)) h8)) h3)) h)
def sT299_18 (C : CT) (k : Nat) (x0 x3 : S) (h : SH) : Tree := (kB k (fun h3 => sNilc x0) (fun v4 h5 => (kB k (fun h6 => sFa 1 v4) (fun v7 h8 => (kB k (fun h9 => sLd1 v7 h9) (fun v10 h11 => (sT299_17 C k x0 x3 v10 h11)) h8)) h5)) h)
def sT299_19 (C : CT) (k : Nat) (x0 x3 x14 x15 : S) (h : SH) : Tree := (kB k (gd x14 false uS (fun h1 => sLd1 x15 h1)) (fun v2 h3 => (kB k (gd x14 false uS (fun h4 => sBin .gtr v2 (S.i .i64 (.lit 15)) (SH.pc h4))) (fun v5 h6 => (kB k (fun h7 => sPick x14 (S.b true) v5 (SH.pc h7)) (fun v8 h9 => (kS v8 (fun h10 => (Tree.leaf (S.i .i64 (.lit 4)) h10)) (fun h11 => (kB k (fun h16 => sLdA 11 x3 h16) (fun v17 h18 => (kK (C 195 [x0, v17] h18) (fun v20 h21 => (kB k (fun h26 => sBin .lss v20 (S.i .i64 (.lit 0)) (SH.pc h26)) (fun v27 h28 => (kS v27 (fun h29 => (sT299_18 C k x0 x3 h29)) (fun h30 => (kB k (fun h33 => sNilc x0) (fun v34 h35 => (kB k (fun h36 => sFa 1 v34) (fun v37 h38 => (kB k (fun h39 => sLd1 v37 h39) (fun v40 h41 => (sT299_10 C k x3 v40 v20 h41)) h38)) h35)) h30)) h28)) h21)))) h11)) h9)) h6)) h3)) h)
def sT299_20 (C : CT) (k : Nat) (x0 x3 x9 x11 : S) (h : SH) : Tree := (kB k (gd x9 false uS (fun h1 => sBin .lss x11 (S.i .i64 (.lit 0)) (SH.pc h1))) (fun v2 h3 => (kB k (fun h4 => sPick x9 (S.b true) v2 (SH.pc h4)) (fun v5 h6 => (kB k (gd v5 false uS (fun h9 => sFa 6 x3)) (fun v10 h11 => (sT299_19 C k x0 x3 v5 v10 h11)) h6)) h3)) h)
def sK299 (C : CT) (k : Nat) (x0 x1 : S) (h : SH) : Tree := (kB k (fun h1 => sBox x1 h1) (fun r3 _ => (kB k (fun h8 => sEqz false .p x0 (S.p none) (SH.pc h8)) (fun v9 h10 => (kB k (gd v9 false uS (fun h13 => sFa 6 r3.1)) (fun v14 h15 => (kB k (gd v9 false uS (fun h16 => sLd1 v14 h16)) (fun v17 h18 => (sT299_20 C k x0 r3.1 v9 v17 h18)) h15)) h10)) r3.2)) h)
theorem sp299 (C : CT) (k : Nat) : ds C k c299 (sQ299 C k) = fun e h => (sK299 C k (e 0) (e 1) h) := by kernel_rfl
def SF299 : SF := fun C k a h => match a with
  | [a0, a1] => sK299 C k a0 a1 h
  | _ => .no
theorem so299 : SOK IP 299 SF299 := ⟨ir299, ip299, by kernel_rfl, fun C k a h => by
  unfold SF299
  split
  · exact .inr ⟨by kernel_rfl, Eq.symm (Eq.trans (congrFun (congrFun (sp299 C k) _) h) rfl)⟩
  · exact .inl rfl⟩
theorem ip300 : IP 300 = some ir300 := rfl
def sQ300 (C : Nat → List S → SH → Tree) (k : Nat) : X → ES → SH → Tree := QrS k rs300
def sT300_1 (C : CT) (k : Nat) (x14 x21 : S) (h : SH) : Tree := (kB k (fun h1 => sNilc x14) (fun v2 h3 => (kB k (fun h4 => sFa 1 v2) (fun v5 h6 => (kB k (fun h7 => sStore 1 v5 x21 h7) (fun r9 _ => (Tree.leaf (S.b true) r9.2)) h6)) h3)) h)
def sT300_2 (C : CT) (k : Nat) (x3 x14 x18 : S) (h : SH) : Tree := (kB k (fun h1 => sLdA 11 x3 h1) (fun v2 h3 => (kB k (fun h4 => sNewSl 1 [(.i .i64 0), (.i .i64 0), (.i .i64 0), (.i .i64 0), (.i .i64 0), (.i .u32 0), (.i .i64 0), (.b false), (.b false), (.i .i64 0), (.i .u32 0)] [(0, 11, v2)] h4) (fun r6 _ => (kB k (fun h7 => sApp 11 80 x18 r6.1 h7) (fun r9 _ => (sT300_1 C k x14 r9.1 r9.2)) r6.2)) h3)) h)
def sT300_3 (C : CT) (k : Nat) (x0 x3 x7 x12 : S) (h : SH) : Tree := (kB k (fun h1 => sPick x7 (S.b true) x12 (SH.pc h1)) (fun v2 h3 => (kS v2 (fun h4 => (Tree.leaf (S.b false) h4)) (fun h5 => (kB k (fun h12 => sNilc x0) (fun v13 h14 => (kB k (fun h15 => sFa 1 v13) (fun v16 h17 => (kB k (fun h18 => sLd1 v16 h18) (fun v19 h20 => (sT300_2 C k x3 x0 v19 h20)) h17)) h14)) h5)) h3)) h)
def sT300_4 (C : CT) (k : Nat) (x0 x3 x7 x9 : S) (h : SH) : Tree := (kB k (gd x7 false uS (fun h1 => Res.ok x0)) (fun v2 h3 => (kK (kG x7 false (fun h4 => C 348 [v2] h4) h3) (fun v5 h6 => (kB k (gd x7 false uS (fun h7 => sBin .geq x9 v5 (SH.pc h7))) (fun v8 h9 => (sT300_3 C k x0 x3 x7 v8 h9)) h6)))) h)
def sK300 (C : CT) (k : Nat) (x0 x1 : S) (h : SH) : Tree := (kB k (fun h1 => sBox x1 h1) (fun r3 _ => (kB k (fun h8 => sEqz false .p x0 (S.p none) (SH.pc h8)) (fun v9 h10 => (kB k (gd v9 false uS (fun h13 => Res.ok x0)) (fun v14 h15 => (kK (kG v9 false (fun h16 => C 302 [v14] h16) h15) (fun v17 h18 => (sT300_4 C k x0 r3.1 v9 v17 h18)))) h10)) r3.2)) h)
theorem sp300 (C : CT) (k : Nat) : ds C k c300 (sQ300 C k) = fun e h => (sK300 C k (e 0) (e 1) h) := by kernel_rfl
def SF300 : SF := fun C k a h => match a with
  | [a0, a1] => sK300 C k a0 a1 h
  | _ => .no
theorem so300 : SOK IP 300 SF300 := ⟨ir300, ip300, by kernel_rfl, fun C k a h => by
  unfold SF300
  split
  · exact .inr ⟨by kernel_rfl, Eq.symm (Eq.trans (congrFun (congrFun (sp300 C k) _) h) rfl)⟩
  · exact .inl rfl⟩
theorem ip302 : IP 302 = some ir302 := rfl
def sQ302 (C : Nat → List S → SH → Tree) (k : Nat) : X → ES → SH → Tree := QrS k rs302
def sT302_1 (C : CT) (k : Nat) (x18 : S) (h : SH) : Tree := (kB k (fun h1 => sLens x18) (fun v2 h3 => (Tree.leaf v2 h3)) h)
def sT302_2 (C : CT) (k : Nat) (x12 : S) (h : SH) : Tree := (kB k (fun h1 => sLens x12) (fun v2 h3 => (kB k (fun h4 => sBin .add v2 (S.i .i64 (.lit 1)) (SH.pc h4)) (fun v5 h6 => (Tree.leaf v5 h6)) h3)) h)
def sT302_3 (C : CT) (k : Nat) (x0 : S) (h : SH) : Tree := (kB k (fun h3 => sNilc x0) (fun v4 h5 => (kB k (fun h6 => sFa 1 v4) (fun v7 h8 => (kB k (fun h9 => sLd1 v7 h9) (fun v10 h11 => (sT302_2 C k v10 h11)) h8)) h5)) h)
def sK302 (C : CT) (k : Nat) (x0 : S) (h : SH) : Tree := (kB k (fun h5 => sEqz false .p x0 (S.p none) (SH.pc h5)) (fun v6 h7 => (kS v6 (fun h8 => (Tree.leaf (S.i .i64 (.lit 0)) h8)) (fun h9 => (kB k (fun h14 => sNilc x0) (fun v15 h16 => (kB k (fun h17 => sFa 2 v15) (fun v18 h19 => (kB k (fun h20 => sLd1 v18 h20) (fun v21 h22 => (kS v21 (fun h23 => (sT302_3 C k x0 h23)) (fun h24 => (kB k (fun h27 => sNilc x0) (fun v28 h29 => (kB k (fun h30 => sFa 1 v28) (fun v31 h32 => (kB k (fun h33 => sLd1 v31 h33) (fun v34 h35 => (sT302_1 C k v34 h35)) h32)) h29)) h24)) h22)) h19)) h16)) h9)) h7)) h)
theorem sp302 (C : CT) (k : Nat) : ds C k c302 (sQ302 C k) = fun e h => (sK302 C k (e 0) h) := by kernel_rfl
def SF302 : SF := fun C k a h => match a with
  | [a0] => sK302 C k a0 h
  | _ => .no
theorem so302 : SOK IP 302 SF302 := ⟨ir302, ip302, by kernel_rfl, fun C k a h => by
  unfold SF302
  split
  · exact .inr ⟨by kernel_rfl, Eq.symm (Eq.trans (congrFun (congrFun (sp302 C k) _) h) rfl)⟩
  · exact .inl rfl⟩
theorem ip348 : IP 348 = some ir348 := rfl
def sQ348 (C : Nat → List S → SH → Tree) (k : Nat) : X → ES → SH → Tree := QrS k rs348
def sT348_1 (C : CT) (k : Nat) (x8 : S) (h : SH) : Tree := (kB k (fun h1 => sBin .add x8 (S.i .i64 (.lit 1)) (SH.pc h1)) (fun v2 h3 => (Tree.leaf v2 h3)) h)
def sK348 (C : CT) (k : Nat) (x0 : S) (h : SH) : Tree := (kB k (fun h5 => sEqz false .p x0 (S.p none) (SH.pc h5)) (fun v6 h7 => (kS v6 (fun h8 => (Tree.leaf (S.i .i64 (.lit 0)) h8)) (fun h9 => (kB k (fun h14 => sNilc x0) (fun v15 h16 => (kB k (fun h17 => sFa 0 v15) (fun v18 h19 => (kB k (fun h20 => sLd1 v18 h20) (fun v21 h22 => (sT348_1 C k v21 h22)) h19)) h16)) h9)) h7)) h)
theorem sp348 (C : CT) (k : Nat) : ds C k c348 (sQ348 C k) = fun e h => (sK348 C k (e 0) h) := by kernel_rfl
def SF348 : SF := fun C k a h => match a with
  | [a0] => sK348 C k a0 h
  | _ => .no
theorem so348 : SOK IP 348 SF348 := ⟨ir348, ip348, by kernel_rfl, fun C k a h => by
  unfold SF348
  split
  · exact .inr ⟨by kernel_rfl, Eq.symm (Eq.trans (congrFun (congrFun (sp348 C k) _) h) rfl)⟩
  · exact .inl rfl⟩
def stree : Tr SF := (.n (.n (.n (.n (.n (.n (.n (.n .l (some SF127) .l) none .l) none (.n .l (some SF95) .l)) none (.n (.n (.n .l (some SF143) .l) none .l) none (.n .l (some SF111) .l))) none (.n (.n .l none (.n .l (some SF103) .l)) (some SF23) (.n (.n (.n .l (some SF151) .l) (some SF87) .l) none .l))) none (.n (.n (.n (.n .l none (.n .l (some SF195) .l)) none (.n (.n .l (some SF163) .l) (some SF99) .l)) (some SF19) (.n (.n (.n .l (some SF147) .l) (some SF83) .l) none .l)) none (.n (.n .l none (.n (.n (.n .l (some SF299) .l) none .l) (some SF107) .l)) (some SF27) (.n (.n (.n .l (some SF155) .l) (some SF91) .l) none .l)))) none (.n (.n (.n (.n (.n .l none (.n .l (some SF193) .l)) none (.n (.n .l (some SF161) .l) (some SF97) .l)) (some SF17) (.n (.n (.n .l (some SF145) .l) none .l) none .l)) none (.n (.n .l none (.n .l (some SF105) .l)) (some SF25) (.n (.n (.n .l (some SF153) .l) (some SF89) .l) none .l))) none (.n (.n (.n .l none (.n (.n .l (some SF165) .l) (some SF101) .l)) none (.n (.n (.n .l (some SF149) .l) (some SF85) .l) none (.n (.n .l (some SF181) .l) none .l))) none (.n (.n (.n (.n .l (some SF141) .l) none .l) none (.n .l (some SF109) (.n .l (some SF237) .l))) (some SF29) (.n (.n .l (some SF93) .l) (some SF61) .l))))) none (.n (.n (.n (.n (.n .l none (.n .l (some SF96) .l)) (some SF16) (.n (.n (.n .l (some SF144) .l) none .l) none .l)) none (.n (.n .l none (.n (.n (.n .l (some SF296) .l) none .l) (some SF104) (.n .l (some SF232) .l))) (some SF24) (.n (.n (.n .l (some SF152) .l) (some SF88) .l) none .l))) (some SF4) (.n (.n (.n (.n .l none (.n .l (some SF196) .l)) none (.n (.n .l (some SF164) .l) (some SF100) .l)) (some SF20) (.n (.n (.n .l (some SF148) .l) (some SF84) .l) none (.n (.n .l (some SF180) .l) none .l))) none (.n (.n (.n (.n .l (some SF140) .l) none .l) none (.n (.n (.n .l (some SF300) .l) none .l) none (.n .l (some SF236) .l))) (some SF28) (.n (.n (.n .l (some SF156) .l) (some SF92) (.n (.n .l (some SF348) .l) none .l)) (some SF60) .l)))) none (.n (.n (.n (.n (.n .l none (.n .l (some SF194) .l)) none (.n (.n (.n .l (some SF290) .l) (some SF162) .l) (some SF98) .l)) (some SF18) (.n (.n (.n .l (some SF146) .l) none .l) none .l)) none (.n (.n .l none (.n .l (some SF106) .l)) none (.n (.n (.n .l (some SF154) .l) (some SF90) .l) (some SF58) (.n .l (some SF122) .l)))) none (.n (.n (.n .l none (.n (.n .l (some SF166) .l) (some SF102) .l)) (some SF22) (.n (.n (.n .l (some SF150) .l) (some SF86) .l) none (.n (.n .l (some SF182) .l) none .l))) none (.n (.n (.n (.n .l (some SF142) .l) none .l) none (.n (.n (.n .l (some SF302) .l) none .l) none (.n .l (some SF238) .l))) none (.n (.n (.n .l (some SF158) .l) (some SF94) .l) none (.n .l (some SF126) .l)))))))
def SP (f : Nat) : Option SF := stree.get f
theorem sall : stree.All (SOK IP) 1 0 :=
  ⟨(fun _ h => by cases h), ⟨(fun _ h => by cases h), ⟨(fun _ h => by cases h), ⟨(fun _ h => by cases h), ⟨(fun _ h => by cases h), ⟨(fun _ h => by cases h), ⟨(fun _ h => by cases h), ⟨(fun _ h => by cases h; exact so127), trivial, trivial⟩, trivial⟩, ⟨(fun _ h => by cases h; exact so95), trivial, trivial⟩⟩, ⟨(fun _ h => by cases h), ⟨(fun _ h => by cases h), ⟨(fun _ h => by cases h; exact so143), trivial, trivial⟩, trivial⟩, ⟨(fun _ h => by cases h; exact so111), trivial, trivial⟩⟩⟩, ⟨(fun _ h => by cases h; exact so23), ⟨(fun _ h => by cases h), trivial, ⟨(fun _ h => by cases h; exact so103), trivial, trivial⟩⟩, ⟨(fun _ h => by cases h), ⟨(fun _ h => by cases h; exact so87), ⟨(fun _ h => by cases h; exact so151), trivial, trivial⟩, trivial⟩, trivial⟩⟩⟩, ⟨(fun _ h => by cases h), ⟨(fun _ h => by cases h; exact so19), ⟨(fun _ h => by cases h), ⟨(fun _ h => by cases h), trivial, ⟨(fun _ h => by cases h; exact so195), trivial, trivial⟩⟩, ⟨(fun _ h => by cases h; exact so99), ⟨(fun _ h => by cases h; exact so163), trivial, trivial⟩, trivial⟩⟩, ⟨(fun _ h => by cases h), ⟨(fun _ h => by cases h; exact so83), ⟨(fun _ h => by cases h; exact so147), trivial, trivial⟩, trivial⟩, trivial⟩⟩, ⟨(fun _ h => by cases h; exact so27), ⟨(fun _ h => by cases h), trivial, ⟨(fun _ h => by cases h; exact so107), ⟨(fun _ h => by cases h), ⟨(fun _ h => by cases h; exact so299), trivial, trivial⟩, trivial⟩, trivial⟩⟩, ⟨(fun _ h => by cases h), ⟨(fun _ h => by cases h; exact so91), ⟨(fun _ h => by cases h; exact so155), trivial, trivial⟩, trivial⟩, trivial⟩⟩⟩⟩, ⟨(fun _ h => by cases h), ⟨(fun _ h => by cases h), ⟨(fun _ h => by cases h; exact so17), ⟨(fun _ h => by cases h), ⟨(fun _ h => by cases h), trivial, ⟨(fun _ h => by cases h; exact so193), trivial, trivial⟩⟩, ⟨(fun _ h => by cases h; exact so97), ⟨(fun _ h => by cases h; exact so161), trivial, trivial⟩, trivial⟩⟩, ⟨(fun _ h => by cases h), ⟨(fun _ h => by cases h), ⟨(fun _ h => by cases h; exact so145), trivial, trivial⟩, trivial⟩, trivial⟩⟩, ⟨(fun _ h => by cases h; exact so25), ⟨(fun _ h => by cases h), trivial, ⟨(fun _ h => by cases h; exact so105), trivial, trivial⟩⟩, ⟨(fun _ h => by cases h), ⟨(fun _ h => by cases h; exact so89), ⟨(fun _ h => by cases h; exact so153), trivial, trivial⟩, trivial⟩, trivial⟩⟩⟩, ⟨(fun _ h => by cases h), ⟨(fun _ h => by cases h), ⟨(fun _ h => by cases h), trivial, ⟨(fun _ h => by cases h; exact so101), ⟨(fun _ h => by cases h; exact so165), trivial, trivial⟩, trivial⟩⟩, ⟨(fun _ h => by cases h), ⟨(fun _ h => by cases h; exact so85), ⟨(fun _ h => by cases h; exact so149), trivial, trivial⟩, trivial⟩, ⟨(fun _ h => by cases h), ⟨(fun _ h => by cases h; exact so181), trivial, trivial⟩, trivial⟩⟩⟩, ⟨(fun _ h => by cases h; exact so29), ⟨(fun _ h => by cases h), ⟨(fun _ h => by cases h), ⟨(fun _ h => by cases h; exact so141), trivial, trivial⟩, trivial⟩, ⟨(fun _ h => by cases h; exact so109), trivial, ⟨(fun _ h => by cases h; exact so237), trivial, trivial⟩⟩⟩, ⟨(fun _ h => by cases h; exact so61), ⟨(fun _ h => by cases h; exact so93), trivial, trivial⟩, trivial⟩⟩⟩⟩⟩, ⟨(fun _ h => by cases h), ⟨(fun _ h => by cases h; exact so4), ⟨(fun _ h => by cases h), ⟨(fun _ h => by cases h; exact so16), ⟨(fun _ h => by cases h), trivial, ⟨(fun _ h => by cases h; exact so96), trivial, trivial⟩⟩, ⟨(fun _ h => by cases h), ⟨(fun _ h => by cases h), ⟨(fun _ h => by cases h; exact so144), trivial, trivial⟩, trivial⟩, trivial⟩⟩, ⟨(fun _ h => by cases h; exact so24), ⟨(fun _ h => by cases h), trivial, ⟨(fun _ h => by cases h; exact so104), ⟨(fun _ h => by cases h), ⟨(fun _ h => by cases h; exact so296), trivial, trivial⟩, trivial⟩, ⟨(fun _ h => by cases h; exact so232), trivial, trivial⟩⟩⟩, ⟨(fun _ h => by cases h), ⟨(fun _ h => by cases h; exact so88), ⟨(fun _ h => by cases h; exact so152), trivial, trivial⟩, trivial⟩, trivial⟩⟩⟩, ⟨(fun _ h => by cases h), ⟨(fun _ h => by cases h; exact so20), ⟨(fun _ h => by cases h), ⟨(fun _ h => by cases h), trivial, ⟨(fun _ h => by cases h; exact so196), trivial, trivial⟩⟩, ⟨(fun _ h => by cases h; exact so100), ⟨(fun _ h => by cases h; exact so164), trivial, trivial⟩, trivial⟩⟩, ⟨(fun _ h => by cases h), ⟨(fun _ h => by cases h; exact so84), ⟨(fun _ h => by cases h; exact so148), trivial, trivial⟩, trivial⟩, ⟨(fun _ h => by cases h), ⟨(fun _ h => by cases h; exact so180), trivial, trivial⟩, trivial⟩⟩⟩, ⟨(fun _ h => by cases h; exact so28), ⟨(fun _ h => by cases h), ⟨(fun _ h => by cases h), ⟨(fun _ h => by cases h; exact so140), trivial, trivial⟩, trivial⟩, ⟨(fun _ h => by cases h), ⟨(fun _ h => by cases h), ⟨(fun _ h => by cases h; exact so300), trivial, trivial⟩, trivial⟩, ⟨(fun _ h => by cases h; exact so236), trivial, trivial⟩⟩⟩, ⟨(fun _ h => by cases h; exact so60), ⟨(fun _ h => by cases h; exact so92), ⟨(fun _ h => by cases h; exact so156), trivial, trivial⟩, ⟨(fun _ h => by cases h), ⟨(fun _ h => by cases h; exact so348), trivial, trivial⟩, trivial⟩⟩, trivial⟩⟩⟩⟩, ⟨(fun _ h => by cases h), ⟨(fun _ h => by cases h), ⟨(fun _ h => by cases h; exact so18), ⟨(fun _ h => by cases h), ⟨(fun _ h => by cases h), trivial, ⟨(fun _ h => by cases h; exact so194), trivial, trivial⟩⟩, ⟨(fun _ h => by cases h; exact so98), ⟨(fun _ h => by cases h; exact so162), ⟨(fun _ h => by cases h; exact so290), trivial, trivial⟩, trivial⟩, trivial⟩⟩, ⟨(fun _ h => by cases h), ⟨(fun _ h => by cases h), ⟨(fun _ h => by cases h; exact so146), trivial, trivial⟩, trivial⟩, trivial⟩⟩, ⟨(fun _ h => by cases h), ⟨(fun _ h => by cases h), trivial, ⟨(fun _ h => by cases h; exact so106), trivial, trivial⟩⟩, ⟨(fun _ h => by cases h; exact so58), ⟨(fun _ h => by cases h; exact so90), ⟨(fun _ h => by cases h; exact so154), trivial, trivial⟩, trivial⟩, ⟨(fun _ h => by cases h; exact so122), trivial, trivial⟩⟩⟩⟩, ⟨(fun _ h => by cases h), ⟨(fun _ h => by cases h; exact so22), ⟨(fun _ h => by cases h), trivial, ⟨(fun _ h => by cases h; exact so102), ⟨(fun _ h => by cases h; exact so166), trivial, trivial⟩, trivial⟩⟩, ⟨(fun _ h => by cases h), ⟨(fun _ h => by cases h; exact so86), ⟨(fun _ h => by cases h; exact so150), trivial, trivial⟩, trivial⟩, ⟨(fun _ h => by cases h), ⟨(fun _ h => by cases h; exact so182), trivial, trivial⟩, trivial⟩⟩⟩, ⟨(fun _ h => by cases h), ⟨(fun _ h => by cases h), ⟨(fun _ h => by cases h), ⟨(fun _ h => by cases h; exact so142), trivial, trivial⟩, trivial⟩, ⟨(fun _ h => by cases h), ⟨(fun _ h => by cases h), ⟨(fun _ h => by cases h; exact so302), trivial, trivial⟩, trivial⟩, ⟨(fun _ h => by cases h; exact so238), trivial, trivial⟩⟩⟩, ⟨(fun _ h => by cases h), ⟨(fun _ h => by cases h; exact so94), ⟨(fun _ h => by cases h; exact so158), trivial, trivial⟩, trivial⟩, ⟨(fun _ h => by cases h; exact so126), trivial, trivial⟩⟩⟩⟩⟩⟩⟩
theorem sruns (σ : Nat → Int) (k : Nat) : COk σ (srun SP k) (ev IP k) := srun_ev (sok_of_tree sall) k
end
end Go.Proofs.YtnhdpfbfgojkpaaGreatDoor.IrPostTwice
