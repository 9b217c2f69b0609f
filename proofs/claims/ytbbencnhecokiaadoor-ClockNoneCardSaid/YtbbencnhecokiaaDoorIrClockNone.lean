/-
  The abstract machine's text of the functions that ClockNone reaches, and: it is the loaded program's. Then the functions without temporaries.
-/
import Derived.Test.YtbbencnhecokiaaDoorProg
import Derived.Test.YtbbencnhecokiaaDoorMxT
import Derived.Test.YtbbencnhecokiaaDoorMxU
import Derived.Test.YtbbencnhecokiaaDoorMxV
import Derived.Test.YtbbencnhecokiaaDoorMxX
import Derived.Test.YtbbencnhecokiaaDoorIrClockNoneP0
namespace Go.Proofs.YtbbencnhecokiaaDoor.IrClockNone
open Go Mx
set_option maxRecDepth 100000
set_option linter.unusedVariables false
theorem ip33 : IP 33 = some ir33 := rfl
def rQ33 (C : Nat → List V → H → Rr) (k : Nat) : X → E → H → Rr := Qrr rs33
def rQ33_1 (C : Nat → List V → H → Rr) (k : Nat) : X → E → H → Rr := (rQ33 C k)
def rK33_1 (C : Nat → List V → H → Rr) (k : Nat) (x0 : V) (h : H) : Rr := (rB (vNilc x0) fun v1 => (rB (vFa 0 v1) fun v2 => (rB (vLdA h 2 v2) fun v3 => (rB (vNilc x0) fun v4 => (rB (vFa 4 v4) fun v5 => (rB (vLd1 h v5) fun v6 => (rK (C 26 [v3, v6] h) fun v7 h8 => (rB (vNilc x0) fun v9 => (rB (vFa 9 v9) fun v10 => (rB (vStore h8 1 v10 (.i .i64 1)) fun r11 => (rB (vNilc x0) fun v12 => (rB (vFa 10 v12) fun v13 => (rB (vStore r11.2 8 v13 v7) fun r14 => (some ((.tup []), r14.2)))))))))))))))
def rJ33_1 (C : Nat → List V → H → Rr) (k : Nat) : E → H → Rr := fun e h => (rK33_1 C k (e 0) h)
theorem rp33_1 (C : Nat → List V → H → Rr) (k : Nat) : dn C k c33_1 (rQ33_1 C k) = (rJ33_1 C k) := by kernel_rfl
def rR33_2 (C : Nat → List V → H → Rr) (k : Nat) : X → E → H → Rr := (Qbr 0 (Qxr (rJ33_1 C k) (rQ33 C k)))
def rQ33_2 (C : Nat → List V → H → Rr) (k : Nat) (g33_2 : V → V → V → H → Rr) : X → E → H → Rr := Qxr (fun e h => g33_2 (e 0) (e 20) (e 21) h) (rR33_2 C k)
def rL33_2 (C : Nat → List V → H → Rr) (k : Nat) (g33_2 : V → V → V → H → Rr) (x0 x20 x21 : V) (h : H) : Rr := (rB (bin .lss x21 x20) fun v1 => (rS v1 (rB (vNilc x0) fun v2 => (rB (vFa 7 v2) fun v3 => (rB (vLd1 h v3) fun v4 => (rB (bin .add v4 (.i .i64 1)) fun v5 => (rB (vNilc x0) fun v6 => (rB (vFa 6 v6) fun v7 => (rB (vLd1 h v7) fun v8 => (rB (vLens v8) fun v9 => (rB (bin .rem v5 v9) fun v10 => (rB (vNilc x0) fun v11 => (rB (vFa 7 v11) fun v12 => (rB (vStore h 1 v12 v10) fun r13 => (rB (vNilc x0) fun v14 => (rB (vFa 6 v14) fun v15 => (rB (vLd1 r13.2 v15) fun v16 => (rB (vIa 1 v16 v4) fun v17 => (rB (vLd1 r13.2 v17) fun v18 => (rB (vLens v18) fun v19 => (rB (bin .gtr v19 (.i .i64 0)) fun v20 => (rS v20 (rB (vNilc x0) fun v21 => (rB (vFa 6 v21) fun v22 => (rB (vLd1 r13.2 v22) fun v23 => (rB (vNilc x0) fun v24 => (rB (vFa 6 v24) fun v25 => (rB (vLd1 r13.2 v25) fun v26 => (rB (vIa 1 v26 v4) fun v27 => (rB (vLd1 r13.2 v27) fun v28 => (rB (vIa 5 v28 (.i .i64 0)) fun v29 => (rB (vLdA r13.2 5 v29) fun v30 => (rB (vNilc x0) fun v31 => (rB (vFa 6 v31) fun v32 => (rB (vLd1 r13.2 v32) fun v33 => (rB (vIa 1 v33 v4) fun v34 => (rB (vLd1 r13.2 v34) fun v35 => (rB (slcut 5 v35 (some (.i .i64 1)) none none) fun v36 => (rK (C 61 [v36] r13.2) fun v37 h38 => (rB (vNilc x0) fun v39 => (rB (vFa 28 v39) fun v40 => (rB (vStore h38 5 v40 v30) fun r41 => (rB (vIa 1 v23 v4) fun v42 => (rB (vStore r41.2 1 v42 v37) fun r43 => (rC (stdy false 1 v22 r13.2 h38) (rC (stdy false 1 v25 r13.2 h38) (rC (stdy false 1 v27 r13.2 h38) (rC (stdy true 5 v29 r13.2 h38) (rB (vNilc x0) fun v44 => (rB (vFa 28 v44) fun v45 => (rB (vLdA r43.2 5 v45) fun v46 => (rK (C 62 [v46] r43.2) fun v47 h48 => (rK (C 21 [v47] h48) fun v49 h50 => (rB (vExt v49 0) fun v51 => (rB (vExt v49 1) fun v52 => (rB (some (.p (some (H.nx h50, 0)), H.new h50 ⟨false, [(.i .u64 0), (.i .u64 0), (.i .u64 0)]⟩)) fun r53 => (rB (vStore r53.2 3 r53.1 v51) fun r54 => (rB (vNilc x0) fun v55 => (rB (vFa 27 v55) fun v56 => (rB (vStore r54.2 1 v56 v4) fun r57 => (rB (vNilc x0) fun v58 => (rB (vFa 9 v58) fun v59 => (rB (vStore r57.2 1 v59 (.i .i64 2)) fun r60 => (rB (vNilc x0) fun v61 => (rB (vFa 2 v61) fun v62 => (rB (vLd1 r60.2 v62) fun v63 => (rB (vIa 2 v63 v4) fun v64 => (rB (vLdA r60.2 2 v64) fun v65 => (rB (vLdA r60.2 3 r53.1) fun v66 => (rB (vNilc x0) fun v67 => (rB (vFa 5 v67) fun v68 => (rB (vLd1 r60.2 v68) fun v69 => (rB (vIa 1 v69 v4) fun v70 => (rB (vLd1 r60.2 v70) fun v71 => (rK (C 63 [v65, v66, v71] r60.2) fun v72 h73 => (rB (vNilc x0) fun v74 => (rB (vFa 18 v74) fun v75 => (rB (vStore h73 9 v75 v72) fun r76 => (some ((.tup []), r76.2)))))))))))))))))))))))))))))))))))))))))))))))))))))))))) (rB (bin .add x21 (.i .i64 1)) fun v77 => (g33_2 x0 x20 v77 r13.2)))))))))))))))))))))) (rK33_1 C k x0 h)))
theorem rp33_2 (C : Nat → List V → H → Rr) (k : Nat) (g33_2 : V → V → V → H → Rr) : dn C k c33_2 (rQ33_2 C k g33_2) = fun e h => (rL33_2 C k g33_2 (e 0) (e 20) (e 21) h) := by kernel_rfl
def rW33_2 (C : Nat → List V → H → Rr) (k : Nat) (x0 x20 x21 : V) (h : H) : Rr := rFix k (fun (g : V × V × V × Unit → H → Rr) (x : V × V × V × Unit) h => rL33_2 C k (fun y0 y20 y21 h => g (y0, y20, y21, ()) h) x.1 x.2.1 x.2.2.1 h) (x0, x20, x21, ()) h
theorem rn33_2 (C : Nat → List V → H → Rr) (k : Nat) : ∀ g : V × V × V × Unit → H → Rr, dn C k c33_2 (Qxr (fun e h => g ((fun e : E => ((e 0, e 20, e 21, ()) : V × V × V × Unit)) e) h) (rR33_2 C k)) = fun e h => (fun (g : V × V × V × Unit → H → Rr) (x : V × V × V × Unit) h => rL33_2 C k (fun y0 y20 y21 h => g (y0, y20, y21, ()) h) x.1 x.2.1 x.2.2.1 h) g ((fun e : E => ((e 0, e 20, e 21, ()) : V × V × V × Unit)) e) h := fun g => rp33_2 C k (fun y0 y20 y21 h => g (y0, y20, y21, ()) h)
theorem rw33_2 (C : Nat → List V → H → Rr) (k : Nat) : dn C k (.loop c33_2) (rR33_2 C k) = fun e h => (rW33_2 C k (e 0) (e 20) (e 21) h) := rloop_eq (fun e : E => ((e 0, e 20, e 21, ()) : V × V × V × Unit)) (fun (g : V × V × V × Unit → H → Rr) (x : V × V × V × Unit) h => rL33_2 C k (fun y0 y20 y21 h => g (y0, y20, y21, ()) h) x.1 x.2.1 x.2.2.1 h) (rn33_2 C k)
def rK33 (C : Nat → List V → H → Rr) (k : Nat) (x0 : V) (h : H) : Rr := (rB (vNilc x0) fun v1 => (rB (vFa 8 v1) fun v2 => (rB (vLd1 h v2) fun v3 => (rB (un .not v3) fun v4 => (rB (vNilc x0) fun v5 => (rB (vFa 8 v5) fun v6 => (rB (vStore h 1 v6 v4) fun r7 => (rS v3 (rB (vNilc x0) fun v8 => (rB (vFa 6 v8) fun v9 => (rB (vLd1 r7.2 v9) fun v10 => (rB (vLens v10) fun v11 => (rW33_2 C k x0 v11 (.i .i64 0) r7.2))))) (rK33_1 C k x0 r7.2)))))))))
theorem rp33 (C : Nat → List V → H → Rr) (k : Nat) : dn C k c33 (rQ33 C k) = fun e h => (rK33 C k (e 0) h) := by
  refine Eq.trans (rseq_eq (rseq_eq (rseq_eq (rp33_1 C k) (rseq_eq (rcond_eq (rseq_eq (rblock_eq (rw33_2 C k)) rfl) rfl) rfl)) rfl) rfl) ?_
  kernel_rfl
def F33 : RF := fun C k a h => match a with
  | [a0] => rK33 C k a0 h
  | _ => none
theorem ro33 : RunOK IP 33 F33 := ⟨ir33, ip33, by kernel_rfl, fun C k a h r e => by
  unfold F33 at e
  split at e
  · exact ⟨by kernel_rfl, (congrFun (congrFun (rp33 C k) _) h).trans e⟩
  · cases e⟩
theorem ip34 : IP 34 = some ir34 := rfl
def rQ34 (C : Nat → List V → H → Rr) (k : Nat) : X → E → H → Rr := Qrr rs34
def rK34 (C : Nat → List V → H → Rr) (k : Nat) (x0 x1 : V) (h : H) : Rr := (rB (vNilc x0) fun v1 => (rB (vFa 10 v1) fun v2 => (rB (vLdA h 8 v2) fun v3 => (rK (C 27 [v3, x1] h) fun v4 h5 => (rB (vNilc x0) fun v6 => (rB (vFa 10 v6) fun v7 => (rB (vStore h5 8 v7 v4) fun r8 => (rB (vNilc x0) fun v9 => (rB (vFa 10 v9) fun v10 => (rB (vLdA r8.2 8 v10) fun v11 => (rK (C 28 [v11] r8.2) fun v12 h13 => (rB (vExt v12 0) fun v14 => (rB (vExt v12 1) fun v15 => (rB (un .not v15) fun v16 => (rS v16 (some ((.tup []), h13)) (rB (vNilc x0) fun v17 => (rB (vFa 9 v17) fun v18 => (rB (vStore h13 1 v18 (.i .i64 0)) fun r19 => (rB (bin .neq v14 (.i .i64 0)) fun v20 => (rS v20 (some ((.tup []), r19.2)) (rB (vNilc x0) fun v21 => (rB (vFa 4 v21) fun v22 => (rB (vLd1 r19.2 v22) fun v23 => (rB (bin .add v23 (.i .u64 1)) fun v24 => (rB (vNilc x0) fun v25 => (rB (vFa 4 v25) fun v26 => (rB (vStore r19.2 1 v26 v24) fun r27 => (rB (vNilc x0) fun v28 => (rB (vFa 10 v28) fun v29 => (rB (vLdA r27.2 8 v29) fun v30 => (rK (C 30 [v30] r27.2) fun v31 h32 => (rK (C 29 [v31] h32) fun v33 h34 => (rB (vExt v33 0) fun v35 => (rB (vExt v33 1) fun v36 => (rB (some (.p (some (H.nx h34, 0)), H.new h34 ⟨false, [(.i .i64 0), (.i .i64 0), (.i .i64 0), (.i .i64 0), (.i .i64 0), (.i .u32 0), (.i .i64 0), (.b false), (.b false), (.i .i64 0), (.i .u32 0)]⟩)) fun r37 => (rB (vStore r37.2 11 r37.1 v35) fun r38 => (rB (bin .eql v36 (.i .i64 0)) fun v39 => (rS v39 (rB (vLdA r38.2 11 r37.1) fun v40 => (rK (C 64 [v40] r38.2) fun v41 h42 => (rB (vExt v41 0) fun v43 => (rB (vExt v41 1) fun v44 => (rB (some (.p (some (H.nx h42, 0)), H.new h42 ⟨false, [(.i .i64 0), (.i .i64 0), (.i .i64 0), (.i .i64 0), (.i .i64 0)]⟩)) fun r45 => (rB (vStore r45.2 5 r45.1 v43) fun r46 => (rS v44 (rB (vNilc x0) fun v47 => (rB (vFa 3 v47) fun v48 => (rB (vLd1 r46.2 v48) fun v49 => (rB (vLdA r46.2 5 r45.1) fun v50 => (rK (C 65 [v49, v50] r46.2) fun v51 h52 => (some ((.tup []), h52))))))) (some ((.tup []), r46.2))))))))) (some ((.tup []), r38.2))))))))))))))))))))))))))))))))))))))))
theorem rp34 (C : Nat → List V → H → Rr) (k : Nat) : dn C k c34 (rQ34 C k) = fun e h => (rK34 C k (e 0) (e 1) h) := by kernel_rfl
def F34 : RF := fun C k a h => match a with
  | [a0, a1] => rK34 C k a0 a1 h
  | _ => none
theorem ro34 : RunOK IP 34 F34 := ⟨ir34, ip34, by kernel_rfl, fun C k a h r e => by
  unfold F34 at e
  split at e
  · exact ⟨by kernel_rfl, (congrFun (congrFun (rp34 C k) _) h).trans e⟩
  · cases e⟩
theorem ip35 : IP 35 = some ir35 := rfl
def rQ35 (C : Nat → List V → H → Rr) (k : Nat) : X → E → H → Rr := Qrr rs35
def rK35 (C : Nat → List V → H → Rr) (k : Nat) (x0 x1 : V) (h : H) : Rr := (rB (vBox x0 h) fun r1 => (rB (vLd1 r1.2 r1.1) fun v2 => (rB (vLd1 r1.2 r1.1) fun v3 => (rB (vNilc v3) fun v4 => (rB (vFa 18 v4) fun v5 => (rB (vLdA r1.2 9 v5) fun v6 => (rK (C 23 [v6, x1] r1.2) fun v7 h8 => (rB (vNilc v2) fun v9 => (rB (vFa 18 v9) fun v10 => (rB (vStore h8 9 v10 v7) fun r11 => (rC (stdy false 1 r1.1 r1.2 h8) (rB (vLd1 r11.2 r1.1) fun v12 => (rB (vNilc v12) fun v13 => (rB (vFa 18 v13) fun v14 => (rB (vLdA r11.2 9 v14) fun v15 => (rK (C 24 [v15] r11.2) fun v16 h17 => (rB (vExt v16 0) fun v18 => (rB (vExt v16 1) fun v19 => (rB (un .not v19) fun v20 => (rS v20 (some ((.tup []), h17)) (rB (vLd1 h17 r1.1) fun v21 => (rB (vNilc v21) fun v22 => (rB (vFa 9 v22) fun v23 => (rB (vStore h17 1 v23 (.i .i64 0)) fun r24 => (rB (bin .eql v18 (.i .i64 0)) fun v25 => (rS v25 (rB (vLd1 r24.2 r1.1) fun v26 => (rB (vNilc v26) fun v27 => (rB (vFa 5 v27) fun v28 => (rB (vLd1 r24.2 v28) fun v29 => (rB (vLd1 r24.2 r1.1) fun v30 => (rB (vNilc v30) fun v31 => (rB (vFa 27 v31) fun v32 => (rB (vLd1 r24.2 v32) fun v33 => (rB (vIa 1 v29 v33) fun v34 => (rB (vLd1 r24.2 v34) fun v35 => (rB (bin .add v35 (.i .u64 1)) fun v36 => (rB (vIa 1 v29 v33) fun v37 => (rB (vStore r24.2 1 v37 v36) fun r38 => (some ((.tup []), r38.2))))))))))))))) (rB (some (.fn 66 [r1.1])) fun v39 => (rB (vLd1 r24.2 r1.1) fun v40 => (rB (vNilc v40) fun v41 => (rB (vFa 6 v41) fun v42 => (rB (vLd1 r24.2 v42) fun v43 => (rB (vLd1 r24.2 r1.1) fun v44 => (rB (vNilc v44) fun v45 => (rB (vFa 27 v45) fun v46 => (rB (vLd1 r24.2 v46) fun v47 => (rB (vIa 1 v43 v47) fun v48 => (rB (vLd1 r24.2 v48) fun v49 => (rK (C 67 [v49, v39] r24.2) fun v50 h51 => (rB (un .not v50) fun v52 => (rS v52 (rB (vLd1 h51 r1.1) fun v53 => (rB (vNilc v53) fun v54 => (rB (vFa 6 v54) fun v55 => (rB (vLd1 h51 v55) fun v56 => (rB (vLd1 h51 r1.1) fun v57 => (rB (vNilc v57) fun v58 => (rB (vFa 27 v58) fun v59 => (rB (vLd1 h51 v59) fun v60 => (rB (vLd1 h51 r1.1) fun v61 => (rB (vNilc v61) fun v62 => (rB (vFa 6 v62) fun v63 => (rB (vLd1 h51 v63) fun v64 => (rB (vLd1 h51 r1.1) fun v65 => (rB (vNilc v65) fun v66 => (rB (vFa 27 v66) fun v67 => (rB (vLd1 h51 v67) fun v68 => (rB (vIa 1 v64 v68) fun v69 => (rB (vLd1 h51 v69) fun v70 => (rB (vLd1 h51 r1.1) fun v71 => (rB (vNilc v71) fun v72 => (rB (vFa 28 v72) fun v73 => (rB (vLdA h51 5 v73) fun v74 => (rB (vNewSl 1 [(.i .i64 0), (.i .i64 0), (.i .i64 0), (.i .i64 0), (.i .i64 0)] [(0, 5, v74)] h51) fun r75 => (rK (C 68 [v70, (.i .i64 0), r75.1] r75.2) fun v76 h77 => (rB (vIa 1 v56 v60) fun v78 => (rB (vStore h77 1 v78 v76) fun r79 => (rC (stdy false 1 r1.1 r75.2 h77) (rC (stdy false 1 v55 r75.2 h77) (rC (stdy false 1 r1.1 r75.2 h77) (rC (stdy false 1 v59 r75.2 h77) (some ((.tup []), r79.2)))))))))))))))))))))))))))))))) (some ((.tup []), h51))))))))))))))))))))))))))))))))))))))))))
theorem rp35 (C : Nat → List V → H → Rr) (k : Nat) : dn C k c35 (rQ35 C k) = fun e h => (rK35 C k (e 0) (e 1) h) := by kernel_rfl
def F35 : RF := fun C k a h => match a with
  | [a0, a1] => rK35 C k a0 a1 h
  | _ => none
theorem ro35 : RunOK IP 35 F35 := ⟨ir35, ip35, by kernel_rfl, fun C k a h r e => by
  unfold F35 at e
  split at e
  · exact ⟨by kernel_rfl, (congrFun (congrFun (rp35 C k) _) h).trans e⟩
  · cases e⟩
theorem ip36 : IP 36 = some ir36 := rfl
def Q36 [q : Hid (V → H → Prop)] : X → E → H → Prop := Qr rs36 q.un
def K36 (x0 : V) (h : H) [q : Hid (V → H → Prop)] : Prop := @Bnd V (vEqz false .s x0 V.nsl) ⟨fun v1 => @Sel v1 ⟨@Hid.un (V → H → Prop) q V.nsl h⟩ ⟨@Bnd (V × H) (vNewSl 0 [] [] h) ⟨fun r2 => @Bnd (V × H) (vApp 1 8 r2.1 x0 r2.2) ⟨fun r3 => @Hid.un (V → H → Prop) q r3.1 r3.2⟩⟩⟩⟩
theorem p36 [q : Hid (V → H → Prop)] : den IP c36 (@Q36 q) = fun e h => @K36 (e 0) h q := by kernel_rfl
theorem f36 (a0 : V) (h : H) (Q : V → H → Prop) : @wF IP 36 [a0] h ⟨Q⟩ ↔ @K36 a0 h ⟨Q⟩ := (Fnc_den (ip36) (by kernel_rfl) (by kernel_rfl) h Q).trans (iff_of_eq (congrFun (congrFun (@p36 ⟨Q⟩) _) h))
def rQ36 (C : Nat → List V → H → Rr) (k : Nat) : X → E → H → Rr := Qrr rs36
def rK36 (C : Nat → List V → H → Rr) (k : Nat) (x0 : V) (h : H) : Rr := (rB (vEqz false .s x0 V.nsl) fun v1 => (rS v1 (some (V.nsl, h)) (rB (vNewSl 0 [] [] h) fun r2 => (rB (vApp 1 8 r2.1 x0 r2.2) fun r3 => (some (r3.1, r3.2))))))
theorem rp36 (C : Nat → List V → H → Rr) (k : Nat) : dn C k c36 (rQ36 C k) = fun e h => (rK36 C k (e 0) h) := by kernel_rfl
def F36 : RF := fun C k a h => match a with
  | [a0] => rK36 C k a0 h
  | _ => none
theorem ro36 : RunOK IP 36 F36 := ⟨ir36, ip36, by kernel_rfl, fun C k a h r e => by
  unfold F36 at e
  split at e
  · exact ⟨by kernel_rfl, (congrFun (congrFun (rp36 C k) _) h).trans e⟩
  · cases e⟩
theorem ip37 : IP 37 = some ir37 := rfl
def Q37 [q : Hid (V → H → Prop)] : X → E → H → Prop := Qr rs37 q.un
def K37 (x0 : V) (h : H) [q : Hid (V → H → Prop)] : Prop := @Bnd V (vEqz false .s x0 V.nsl) ⟨fun v1 => @Sel v1 ⟨@Hid.un (V → H → Prop) q V.nsl h⟩ ⟨@Bnd (V × H) (vNewSl 0 [] [] h) ⟨fun r2 => @Bnd (V × H) (vApp 2 16 r2.1 x0 r2.2) ⟨fun r3 => @Hid.un (V → H → Prop) q r3.1 r3.2⟩⟩⟩⟩
theorem p37 [q : Hid (V → H → Prop)] : den IP c37 (@Q37 q) = fun e h => @K37 (e 0) h q := by kernel_rfl
theorem f37 (a0 : V) (h : H) (Q : V → H → Prop) : @wF IP 37 [a0] h ⟨Q⟩ ↔ @K37 a0 h ⟨Q⟩ := (Fnc_den (ip37) (by kernel_rfl) (by kernel_rfl) h Q).trans (iff_of_eq (congrFun (congrFun (@p37 ⟨Q⟩) _) h))
def rQ37 (C : Nat → List V → H → Rr) (k : Nat) : X → E → H → Rr := Qrr rs37
def rK37 (C : Nat → List V → H → Rr) (k : Nat) (x0 : V) (h : H) : Rr := (rB (vEqz false .s x0 V.nsl) fun v1 => (rS v1 (some (V.nsl, h)) (rB (vNewSl 0 [] [] h) fun r2 => (rB (vApp 2 16 r2.1 x0 r2.2) fun r3 => (some (r3.1, r3.2))))))
theorem rp37 (C : Nat → List V → H → Rr) (k : Nat) : dn C k c37 (rQ37 C k) = fun e h => (rK37 C k (e 0) h) := by kernel_rfl
def F37 : RF := fun C k a h => match a with
  | [a0] => rK37 C k a0 h
  | _ => none
theorem ro37 : RunOK IP 37 F37 := ⟨ir37, ip37, by kernel_rfl, fun C k a h r e => by
  unfold F37 at e
  split at e
  · exact ⟨by kernel_rfl, (congrFun (congrFun (rp37 C k) _) h).trans e⟩
  · cases e⟩
theorem ip38 : IP 38 = some ir38 := rfl
def Q38 [q : Hid (V → H → Prop)] : X → E → H → Prop := Qr rs38 q.un
def K38 (x0 : V) (h : H) [q : Hid (V → H → Prop)] : Prop := @wF IP 69 [x0] h ⟨fun v1 h2 => @Bnd V (vBld [(.i .i64 0), .nsl, .nsl, .nsl, .nsl, .nsl, .nsl, .nsl, .nsl, .nsl, .nsl, .nsl, .nsl, .nsl, .nsl, .nsl, .nsl, .nsl, .nsl, .nsl, .nsl, .nsl, .nsl, .nsl, .nsl, .nsl, .nsl, .nsl, .nsl, .nsl, .nsl, .nsl, .nsl, .nsl, .nsl, .nsl, .nsl, .nsl, .nsl, .nsl, .nsl, .nsl, .nsl, .nsl, .nsl, .nsl, .nsl, .nsl, .nsl, .nsl, .nsl, (.i .i64 0), (.i .i64 0)] [(0, 1, v1)]) ⟨fun v3 => @Bnd (V × H) (vBox v3 h2) ⟨fun r4 => @Hid.un (V → H → Prop) q r4.1 r4.2⟩⟩⟩
theorem p38 [q : Hid (V → H → Prop)] : den IP c38 (@Q38 q) = fun e h => @K38 (e 0) h q := by kernel_rfl
theorem f38 (a0 : V) (h : H) (Q : V → H → Prop) : @wF IP 38 [a0] h ⟨Q⟩ ↔ @K38 a0 h ⟨Q⟩ := (Fnc_den (ip38) (by kernel_rfl) (by kernel_rfl) h Q).trans (iff_of_eq (congrFun (congrFun (@p38 ⟨Q⟩) _) h))
def rQ38 (C : Nat → List V → H → Rr) (k : Nat) : X → E → H → Rr := Qrr rs38
def rK38 (C : Nat → List V → H → Rr) (k : Nat) (x0 : V) (h : H) : Rr := (rK (C 69 [x0] h) fun v1 h2 => (rB (vBld [(.i .i64 0), .nsl, .nsl, .nsl, .nsl, .nsl, .nsl, .nsl, .nsl, .nsl, .nsl, .nsl, .nsl, .nsl, .nsl, .nsl, .nsl, .nsl, .nsl, .nsl, .nsl, .nsl, .nsl, .nsl, .nsl, .nsl, .nsl, .nsl, .nsl, .nsl, .nsl, .nsl, .nsl, .nsl, .nsl, .nsl, .nsl, .nsl, .nsl, .nsl, .nsl, .nsl, .nsl, .nsl, .nsl, .nsl, .nsl, .nsl, .nsl, .nsl, .nsl, (.i .i64 0), (.i .i64 0)] [(0, 1, v1)]) fun v3 => (rB (vBox v3 h2) fun r4 => (some (r4.1, r4.2)))))
theorem rp38 (C : Nat → List V → H → Rr) (k : Nat) : dn C k c38 (rQ38 C k) = fun e h => (rK38 C k (e 0) h) := by kernel_rfl
def F38 : RF := fun C k a h => match a with
  | [a0] => rK38 C k a0 h
  | _ => none
theorem ro38 : RunOK IP 38 F38 := ⟨ir38, ip38, by kernel_rfl, fun C k a h r e => by
  unfold F38 at e
  split at e
  · exact ⟨by kernel_rfl, (congrFun (congrFun (rp38 C k) _) h).trans e⟩
  · cases e⟩
theorem ip39 : IP 39 = some ir39 := rfl
def rQ39 (C : Nat → List V → H → Rr) (k : Nat) : X → E → H → Rr := Qrr rs39
def rS39_10 (C : Nat → List V → H → Rr) (k : Nat) : List (E × H) → E → H → Rr := (fun st e h => rChk o39_9 ((e, h) :: st) 27 [(20, 22)] ((Qxr (dn C k .ret (rQ39 C k)) (rQ39 C k)) X.normal e h))
def rK39_10 (C : Nat → List V → H → Rr) (k : Nat) (k20_24 : V) (k20_25 : V) (k22_h : H) (k23_h : H) (x24 x30 : V) (h : H) : Rr := (rB (vPick x24 x30 (.b false)) fun v1 => (rC (stdyG k20_24 true (stdy false 1 k20_25 k22_h k23_h)) (some (v1, h))))
def rJ39_10 (C : Nat → List V → H → Rr) (k : Nat) : List (E × H) → E → H → Rr := fun st e h => (rK39_10 C k ((List.getD st 4 eh0).1 24) ((List.getD st 4 eh0).1 25) (List.getD st 2 eh0).2 (List.getD st 1 eh0).2 (e 24) (e 30) h)
theorem rp39_10 (C : Nat → List V → H → Rr) (k : Nat) : dnT C o39_1 (rS39_10 C k) = (rJ39_10 C k) := by
  refine Eq.trans (rtapp_eq rfl rfl) ?_
  kernel_rfl
def rS39_11 (C : Nat → List V → H → Rr) (k : Nat) : List (E × H) → E → H → Rr := (fun st e h => rChk o39_9 ((e, h) :: st) 27 [(20, 22)] ((Qxr (dn C k .ret (rQ39 C k)) (rQ39 C k)) X.normal e h))
def rK39_11 (C : Nat → List V → H → Rr) (k : Nat) (x1 x3 x19 x22 : V) (h : H) : Rr := (rB (vPick x19 x22 (.b false)) fun v1 => (rG v1 true (rB (vFa 0 x1) fun v2 => (rB (vLd1 h v2) fun v3 => (rK (C 40 [x3] h) fun v4 h5 => (rB (bin .sub (.i .i64 16384) v4) fun v6 => (rB (bin .leq v3 v6) fun v7 => (rK39_10 C k v1 v2 h h5 v1 v7 h5)))))) (rK39_10 C k v1 undefV h h v1 undefV h)))
def rJ39_11 (C : Nat → List V → H → Rr) (k : Nat) : List (E × H) → E → H → Rr := fun st e h => (rK39_11 C k (e 1) (e 3) (e 19) (e 22) h)
theorem rp39_11 (C : Nat → List V → H → Rr) (k : Nat) : dnT C o39_3 (rS39_11 C k) = (rJ39_11 C k) := by
  refine Eq.trans (rtapp_eq (rtgrp_eq2 24 true rfl (rp39_10 C k) rfl) rfl) ?_
  kernel_rfl
def rS39_12 (C : Nat → List V → H → Rr) (k : Nat) : List (E × H) → E → H → Rr := (fun st e h => rChk o39_9 ((e, h) :: st) 27 [(20, 22)] ((Qxr (dn C k .ret (rQ39 C k)) (rQ39 C k)) X.normal e h))
def rK39_12 (C : Nat → List V → H → Rr) (k : Nat) (x1 x3 x12 x17 : V) (h : H) : Rr := (rB (vPick x12 x17 (.b false)) fun v1 => (rG v1 true (rB (vFa 0 x1) fun v2 => (rB (vLd1 h v2) fun v3 => (rB (bin .geq v3 (.i .i64 0)) fun v4 => (rK39_11 C k x1 x3 v1 v4 h)))) (rK39_11 C k x1 x3 v1 undefV h)))
def rJ39_12 (C : Nat → List V → H → Rr) (k : Nat) : List (E × H) → E → H → Rr := fun st e h => (rK39_12 C k (e 1) (e 3) (e 12) (e 17) h)
theorem rp39_12 (C : Nat → List V → H → Rr) (k : Nat) : dnT C o39_5 (rS39_12 C k) = (rJ39_12 C k) := by
  refine Eq.trans (rtapp_eq (rtgrp_eq2 19 true rfl (rp39_11 C k) rfl) rfl) ?_
  kernel_rfl
def rS39_13 (C : Nat → List V → H → Rr) (k : Nat) : List (E × H) → E → H → Rr := (fun st e h => rChk o39_9 ((e, h) :: st) 27 [(20, 22)] ((Qxr (dn C k .ret (rQ39 C k)) (rQ39 C k)) X.normal e h))
def rK39_13 (C : Nat → List V → H → Rr) (k : Nat) (x1 x3 x8 x10 : V) (h : H) : Rr := (rB (vPick x8 x10 (.b false)) fun v1 => (rG v1 true (rB (bin .sub x3 (.i .i64 1)) fun v2 => (rB (bin .and x3 v2) fun v3 => (rB (bin .eql v3 (.i .i64 0)) fun v4 => (rK39_12 C k x1 x3 v1 v4 h)))) (rK39_12 C k x1 x3 v1 undefV h)))
def rJ39_13 (C : Nat → List V → H → Rr) (k : Nat) : List (E × H) → E → H → Rr := fun st e h => (rK39_13 C k (e 1) (e 3) (e 8) (e 10) h)
theorem rp39_13 (C : Nat → List V → H → Rr) (k : Nat) : dnT C o39_7 (rS39_13 C k) = (rJ39_13 C k) := by
  refine Eq.trans (rtapp_eq (rtgrp_eq2 12 true rfl (rp39_12 C k) rfl) rfl) ?_
  kernel_rfl
def rK39 (C : Nat → List V → H → Rr) (k : Nat) (x0 : V) (h : H) : Rr := (rB (vBox x0 h) fun r1 => (rB (vFa 1 r1.1) fun v2 => (rB (vLd1 r1.2 v2) fun v3 => (rB (bin .geq v3 (.i .i64 2)) fun v4 => (rG v4 true (rB (bin .leq v3 (.i .i64 64)) fun v5 => (rK39_13 C k r1.1 v3 v4 v5 r1.2)) (rK39_13 C k r1.1 v3 v4 undefV r1.2))))))
theorem rp39 (C : Nat → List V → H → Rr) (k : Nat) : dn C k c39 (rQ39 C k) = fun e h => (rK39 C k (e 0) h) := by
  refine Eq.trans (rseq_eq (rseq_eq (rseq_eq rfl (rdraw_eq (rtapp_eq (rtgrp_eq2 8 true rfl (rp39_13 C k) rfl) rfl))) rfl) rfl) ?_
  kernel_rfl
def F39 : RF := fun C k a h => match a with
  | [a0] => rK39 C k a0 h
  | _ => none
theorem ro39 : RunOK IP 39 F39 := ⟨ir39, ip39, by kernel_rfl, fun C k a h r e => by
  unfold F39 at e
  split at e
  · exact ⟨by kernel_rfl, (congrFun (congrFun (rp39 C k) _) h).trans e⟩
  · cases e⟩
theorem ip40 : IP 40 = some ir40 := rfl
def rQ40 (C : Nat → List V → H → Rr) (k : Nat) : X → E → H → Rr := Qrr rs40
def rK40 (C : Nat → List V → H → Rr) (k : Nat) (x0 : V) (h : H) : Rr := (rB (foldO max2 x0 [(.i .i64 0)]) fun v1 => (rB (foldO min2 v1 [(.i .i64 64)]) fun v2 => (rB (bin .mul v2 (.i .i64 4)) fun v3 => (rB (bin .add (.i .i64 1) v3) fun v4 => (some (v4, h))))))
theorem rp40 (C : Nat → List V → H → Rr) (k : Nat) : dn C k c40 (rQ40 C k) = fun e h => (rK40 C k (e 0) h) := by kernel_rfl
def F40 : RF := fun C k a h => match a with
  | [a0] => rK40 C k a0 h
  | _ => none
theorem ro40 : RunOK IP 40 F40 := ⟨ir40, ip40, by kernel_rfl, fun C k a h r e => by
  unfold F40 at e
  split at e
  · exact ⟨by kernel_rfl, (congrFun (congrFun (rp40 C k) _) h).trans e⟩
  · cases e⟩
theorem ip41 : IP 41 = some ir41 := rfl
def rQ41 (C : Nat → List V → H → Rr) (k : Nat) : X → E → H → Rr := Qrr rs41
def rK41 (C : Nat → List V → H → Rr) (k : Nat) (x0 : V) (h : H) : Rr := (rB (vEqz false .p x0 (.p none)) fun v1 => (rS v1 (some ((.i .i64 0), h)) (rB (vNilc x0) fun v2 => (rB (vFa 0 v2) fun v3 => (rB (vLd1 h v3) fun v4 => (rB (vLens v4) fun v5 => (some (v5, h))))))))
theorem rp41 (C : Nat → List V → H → Rr) (k : Nat) : dn C k c41 (rQ41 C k) = fun e h => (rK41 C k (e 0) h) := by kernel_rfl
def F41 : RF := fun C k a h => match a with
  | [a0] => rK41 C k a0 h
  | _ => none
theorem ro41 : RunOK IP 41 F41 := ⟨ir41, ip41, by kernel_rfl, fun C k a h r e => by
  unfold F41 at e
  split at e
  · exact ⟨by kernel_rfl, (congrFun (congrFun (rp41 C k) _) h).trans e⟩
  · cases e⟩
theorem ip42 : IP 42 = some ir42 := rfl
def rQ42 (C : Nat → List V → H → Rr) (k : Nat) : X → E → H → Rr := Qrr rs42
def rK42 (C : Nat → List V → H → Rr) (k : Nat) (x0 x1 x2 : V) (h : H) : Rr := (rK (C 70 [x0, x1] h) fun v1 h2 => (rS v1 (rB (vNilc x0) fun v3 => (rB (vFa 0 v3) fun v4 => (rB (vLd1 h2 v4) fun v5 => (rB (vIa 1 v5 x1) fun v6 => (rB (vStore h2 1 v6 x2) fun r7 => (some ((.tup []), r7.2))))))) (some ((.tup []), h2))))
theorem rp42 (C : Nat → List V → H → Rr) (k : Nat) : dn C k c42 (rQ42 C k) = fun e h => (rK42 C k (e 0) (e 1) (e 2) h) := by kernel_rfl
def F42 : RF := fun C k a h => match a with
  | [a0, a1, a2] => rK42 C k a0 a1 a2 h
  | _ => none
theorem ro42 : RunOK IP 42 F42 := ⟨ir42, ip42, by kernel_rfl, fun C k a h r e => by
  unfold F42 at e
  split at e
  · exact ⟨by kernel_rfl, (congrFun (congrFun (rp42 C k) _) h).trans e⟩
  · cases e⟩
theorem ip43 : IP 43 = some ir43 := rfl
def rQ43 (C : Nat → List V → H → Rr) (k : Nat) : X → E → H → Rr := Qrr rs43
def rK43 (C : Nat → List V → H → Rr) (k : Nat) (x0 x1 : V) (h : H) : Rr := (rB (vBox x0 h) fun r1 => (rB (vFa 0 r1.1) fun v2 => (rB (vLd1 r1.2 v2) fun v3 => (rB (bin .add v3 (.i .i64 1)) fun v4 => (rB (vFa 1 r1.1) fun v5 => (rB (vLd1 r1.2 v5) fun v6 => (rB (vCvi .u64 v6) fun v7 => (rB (bin .rem x1 v7) fun v8 => (rB (vCvi .i64 v8) fun v9 => (rB (bin .mul v9 (.i .i64 4)) fun v10 => (rB (bin .add v4 v10) fun v11 => (some (v11, r1.2)))))))))))))
theorem rp43 (C : Nat → List V → H → Rr) (k : Nat) : dn C k c43 (rQ43 C k) = fun e h => (rK43 C k (e 0) (e 1) h) := by kernel_rfl
def F43 : RF := fun C k a h => match a with
  | [a0, a1] => rK43 C k a0 a1 h
  | _ => none
theorem ro43 : RunOK IP 43 F43 := ⟨ir43, ip43, by kernel_rfl, fun C k a h r e => by
  unfold F43 at e
  split at e
  · exact ⟨by kernel_rfl, (congrFun (congrFun (rp43 C k) _) h).trans e⟩
  · cases e⟩
theorem ip44 : IP 44 = some ir44 := rfl
def rQ44 (C : Nat → List V → H → Rr) (k : Nat) : X → E → H → Rr := Qrr rs44
def rS44_20 (C : Nat → List V → H → Rr) (k : Nat) : E → H → Rr := ((Qxr (dn C k .ret (rQ44 C k)) (rQ44 C k)) X.normal)
def rK44_20 (C : Nat → List V → H → Rr) (k : Nat) (x46 x49 : V) (h : H) : Rr := (rB (vPick x46 x49 (.b false)) fun v1 => (some (v1, h)))
def rJ44_20 (C : Nat → List V → H → Rr) (k : Nat) : E → H → Rr := fun e h => (rK44_20 C k (e 46) (e 49) h)
theorem rp44_20 (C : Nat → List V → H → Rr) (k : Nat) : dnOps C o44_1 (rS44_20 C k) = (rJ44_20 C k) := by
  refine Eq.trans (rapp_eq rfl rfl) ?_
  kernel_rfl
def rS44_21 (C : Nat → List V → H → Rr) (k : Nat) : E → H → Rr := ((Qxr (dn C k .ret (rQ44 C k)) (rQ44 C k)) X.normal)
def rK44_21 (C : Nat → List V → H → Rr) (k : Nat) (x1 x41 x44 : V) (h : H) : Rr := (rB (vPick x41 x44 (.b false)) fun v1 => (rG v1 true (rB (vFa 3 x1) fun v2 => (rB (vLd1 h v2) fun v3 => (rB (bin .leq v3 (.i .i64 16777215)) fun v4 => (rK44_20 C k v1 v4 h)))) (rK44_20 C k v1 undefV h)))
def rJ44_21 (C : Nat → List V → H → Rr) (k : Nat) : E → H → Rr := fun e h => (rK44_21 C k (e 1) (e 41) (e 44) h)
theorem rp44_21 (C : Nat → List V → H → Rr) (k : Nat) : dnOps C o44_3 (rS44_21 C k) = (rJ44_21 C k) := by
  refine Eq.trans (rapp_eq (rgrp_eq2 46 true rfl (rp44_20 C k) rfl) rfl) ?_
  kernel_rfl
def rS44_22 (C : Nat → List V → H → Rr) (k : Nat) : E → H → Rr := ((Qxr (dn C k .ret (rQ44 C k)) (rQ44 C k)) X.normal)
def rK44_22 (C : Nat → List V → H → Rr) (k : Nat) (x1 x36 x39 : V) (h : H) : Rr := (rB (vPick x36 x39 (.b false)) fun v1 => (rG v1 true (rB (vFa 3 x1) fun v2 => (rB (vLd1 h v2) fun v3 => (rB (bin .geq v3 (.i .i64 1)) fun v4 => (rK44_21 C k x1 v1 v4 h)))) (rK44_21 C k x1 v1 undefV h)))
def rJ44_22 (C : Nat → List V → H → Rr) (k : Nat) : E → H → Rr := fun e h => (rK44_22 C k (e 1) (e 36) (e 39) h)
theorem rp44_22 (C : Nat → List V → H → Rr) (k : Nat) : dnOps C o44_5 (rS44_22 C k) = (rJ44_22 C k) := by
  refine Eq.trans (rapp_eq (rgrp_eq2 41 true rfl (rp44_21 C k) rfl) rfl) ?_
  kernel_rfl
def rS44_23 (C : Nat → List V → H → Rr) (k : Nat) : E → H → Rr := ((Qxr (dn C k .ret (rQ44 C k)) (rQ44 C k)) X.normal)
def rK44_23 (C : Nat → List V → H → Rr) (k : Nat) (x1 x31 x34 : V) (h : H) : Rr := (rB (vPick x31 x34 (.b false)) fun v1 => (rG v1 true (rB (vFa 2 x1) fun v2 => (rB (vLd1 h v2) fun v3 => (rB (bin .lss v3 (.i .i64 16)) fun v4 => (rK44_22 C k x1 v1 v4 h)))) (rK44_22 C k x1 v1 undefV h)))
def rJ44_23 (C : Nat → List V → H → Rr) (k : Nat) : E → H → Rr := fun e h => (rK44_23 C k (e 1) (e 31) (e 34) h)
theorem rp44_23 (C : Nat → List V → H → Rr) (k : Nat) : dnOps C o44_7 (rS44_23 C k) = (rJ44_23 C k) := by
  refine Eq.trans (rapp_eq (rgrp_eq2 36 true rfl (rp44_22 C k) rfl) rfl) ?_
  kernel_rfl
def rS44_24 (C : Nat → List V → H → Rr) (k : Nat) : E → H → Rr := ((Qxr (dn C k .ret (rQ44 C k)) (rQ44 C k)) X.normal)
def rK44_24 (C : Nat → List V → H → Rr) (k : Nat) (x1 x26 x29 : V) (h : H) : Rr := (rB (vPick x26 x29 (.b false)) fun v1 => (rG v1 true (rB (vFa 2 x1) fun v2 => (rB (vLd1 h v2) fun v3 => (rB (bin .geq v3 (.i .i64 0)) fun v4 => (rK44_23 C k x1 v1 v4 h)))) (rK44_23 C k x1 v1 undefV h)))
def rJ44_24 (C : Nat → List V → H → Rr) (k : Nat) : E → H → Rr := fun e h => (rK44_24 C k (e 1) (e 26) (e 29) h)
theorem rp44_24 (C : Nat → List V → H → Rr) (k : Nat) : dnOps C o44_9 (rS44_24 C k) = (rJ44_24 C k) := by
  refine Eq.trans (rapp_eq (rgrp_eq2 31 true rfl (rp44_23 C k) rfl) rfl) ?_
  kernel_rfl
def rS44_25 (C : Nat → List V → H → Rr) (k : Nat) : E → H → Rr := ((Qxr (dn C k .ret (rQ44 C k)) (rQ44 C k)) X.normal)
def rK44_25 (C : Nat → List V → H → Rr) (k : Nat) (x1 x21 x24 : V) (h : H) : Rr := (rB (vPick x21 x24 (.b false)) fun v1 => (rG v1 true (rB (vFa 1 x1) fun v2 => (rB (vLd1 h v2) fun v3 => (rB (bin .lss v3 (.i .i64 4)) fun v4 => (rK44_24 C k x1 v1 v4 h)))) (rK44_24 C k x1 v1 undefV h)))
def rJ44_25 (C : Nat → List V → H → Rr) (k : Nat) : E → H → Rr := fun e h => (rK44_25 C k (e 1) (e 21) (e 24) h)
theorem rp44_25 (C : Nat → List V → H → Rr) (k : Nat) : dnOps C o44_11 (rS44_25 C k) = (rJ44_25 C k) := by
  refine Eq.trans (rapp_eq (rgrp_eq2 26 true rfl (rp44_24 C k) rfl) rfl) ?_
  kernel_rfl
def rS44_26 (C : Nat → List V → H → Rr) (k : Nat) : E → H → Rr := ((Qxr (dn C k .ret (rQ44 C k)) (rQ44 C k)) X.normal)
def rK44_26 (C : Nat → List V → H → Rr) (k : Nat) (x1 x16 x19 : V) (h : H) : Rr := (rB (vPick x16 x19 (.b false)) fun v1 => (rG v1 true (rB (vFa 1 x1) fun v2 => (rB (vLd1 h v2) fun v3 => (rB (bin .geq v3 (.i .i64 0)) fun v4 => (rK44_25 C k x1 v1 v4 h)))) (rK44_25 C k x1 v1 undefV h)))
def rJ44_26 (C : Nat → List V → H → Rr) (k : Nat) : E → H → Rr := fun e h => (rK44_26 C k (e 1) (e 16) (e 19) h)
theorem rp44_26 (C : Nat → List V → H → Rr) (k : Nat) : dnOps C o44_13 (rS44_26 C k) = (rJ44_26 C k) := by
  refine Eq.trans (rapp_eq (rgrp_eq2 21 true rfl (rp44_25 C k) rfl) rfl) ?_
  kernel_rfl
def rS44_27 (C : Nat → List V → H → Rr) (k : Nat) : E → H → Rr := ((Qxr (dn C k .ret (rQ44 C k)) (rQ44 C k)) X.normal)
def rK44_27 (C : Nat → List V → H → Rr) (k : Nat) (x1 x11 x14 : V) (h : H) : Rr := (rB (vPick x11 x14 (.b false)) fun v1 => (rG v1 true (rB (vFa 4 x1) fun v2 => (rB (vLd1 h v2) fun v3 => (rB (bin .leq v3 (.i .i64 3)) fun v4 => (rK44_26 C k x1 v1 v4 h)))) (rK44_26 C k x1 v1 undefV h)))
def rJ44_27 (C : Nat → List V → H → Rr) (k : Nat) : E → H → Rr := fun e h => (rK44_27 C k (e 1) (e 11) (e 14) h)
theorem rp44_27 (C : Nat → List V → H → Rr) (k : Nat) : dnOps C o44_15 (rS44_27 C k) = (rJ44_27 C k) := by
  refine Eq.trans (rapp_eq (rgrp_eq2 16 true rfl (rp44_26 C k) rfl) rfl) ?_
  kernel_rfl
def rS44_28 (C : Nat → List V → H → Rr) (k : Nat) : E → H → Rr := ((Qxr (dn C k .ret (rQ44 C k)) (rQ44 C k)) X.normal)
def rK44_28 (C : Nat → List V → H → Rr) (k : Nat) (x1 x6 x9 : V) (h : H) : Rr := (rB (vPick x6 x9 (.b false)) fun v1 => (rG v1 true (rB (vFa 4 x1) fun v2 => (rB (vLd1 h v2) fun v3 => (rB (bin .geq v3 (.i .i64 1)) fun v4 => (rK44_27 C k x1 v1 v4 h)))) (rK44_27 C k x1 v1 undefV h)))
def rJ44_28 (C : Nat → List V → H → Rr) (k : Nat) : E → H → Rr := fun e h => (rK44_28 C k (e 1) (e 6) (e 9) h)
theorem rp44_28 (C : Nat → List V → H → Rr) (k : Nat) : dnOps C o44_17 (rS44_28 C k) = (rJ44_28 C k) := by
  refine Eq.trans (rapp_eq (rgrp_eq2 11 true rfl (rp44_27 C k) rfl) rfl) ?_
  kernel_rfl
def rK44 (C : Nat → List V → H → Rr) (k : Nat) (x0 : V) (h : H) : Rr := (rB (vBox x0 h) fun r1 => (rB (vFa 0 r1.1) fun v2 => (rB (vLd1 r1.2 v2) fun v3 => (rB (bin .geq v3 (.i .i64 0)) fun v4 => (rG v4 true (rB (vFa 0 r1.1) fun v5 => (rB (vLd1 r1.2 v5) fun v6 => (rB (bin .lss v6 (.i .i64 1099511627776)) fun v7 => (rK44_28 C k r1.1 v4 v7 r1.2)))) (rK44_28 C k r1.1 v4 undefV r1.2))))))
theorem rp44 (C : Nat → List V → H → Rr) (k : Nat) : dn C k c44 (rQ44 C k) = fun e h => (rK44 C k (e 0) h) := by
  refine Eq.trans (rseq_eq (rseq_eq rfl (rregion_eq (rapp_eq (rgrp_eq2 6 true rfl (rp44_28 C k) rfl) rfl))) rfl) ?_
  kernel_rfl
def F44 : RF := fun C k a h => match a with
  | [a0] => rK44 C k a0 h
  | _ => none
theorem ro44 : RunOK IP 44 F44 := ⟨ir44, ip44, by kernel_rfl, fun C k a h r e => by
  unfold F44 at e
  split at e
  · exact ⟨by kernel_rfl, (congrFun (congrFun (rp44 C k) _) h).trans e⟩
  · cases e⟩
theorem ip45 : IP 45 = some ir45 := rfl
def rQ45 (C : Nat → List V → H → Rr) (k : Nat) : X → E → H → Rr := Qrr rs45
def rK45 (C : Nat → List V → H → Rr) (k : Nat) (x0 x1 : V) (h : H) : Rr := (rB (vBox x0 h) fun r1 => (rB (some (.p (some (H.nx r1.2, 0)), H.new r1.2 ⟨false, [(.i .i64 0), (.i .i64 0), (.i .i64 0), (.i .i64 0), (.i .i64 0), (.i .u32 0), (.i .i64 0), (.b false), (.b false), (.i .i64 0), (.i .u32 0)]⟩)) fun r2 => (rB (foldO max2 x1 [(.i .i64 0)]) fun v3 => (rB (foldO min2 v3 [(.i .i64 1099511627775)]) fun v4 => (rB (vCvi .u32 v4) fun v5 => (rB (bin .shr v4 (.i .u64 32)) fun v6 => (rB (vFa 10 r1.1) fun v7 => (rB (vStore r2.2 1 v7 v5) fun r8 => (rB (vFa 9 r1.1) fun v9 => (rB (vStore r8.2 1 v9 v6) fun r10 => (rB (vLdA r10.2 11 r1.1) fun v11 => (rB (vStore r10.2 11 r2.1 v11) fun r12 => (rB (vLdA r12.2 11 r2.1) fun v13 => (some (v13, r12.2)))))))))))))))
theorem rp45 (C : Nat → List V → H → Rr) (k : Nat) : dn C k c45 (rQ45 C k) = fun e h => (rK45 C k (e 0) (e 1) h) := by kernel_rfl
def F45 : RF := fun C k a h => match a with
  | [a0, a1] => rK45 C k a0 a1 h
  | _ => none
theorem ro45 : RunOK IP 45 F45 := ⟨ir45, ip45, by kernel_rfl, fun C k a h r e => by
  unfold F45 at e
  split at e
  · exact ⟨by kernel_rfl, (congrFun (congrFun (rp45 C k) _) h).trans e⟩
  · cases e⟩
theorem ip46 : IP 46 = some ir46 := rfl
def rQ46 (C : Nat → List V → H → Rr) (k : Nat) : X → E → H → Rr := Qrr rs46
def rS46_16 (C : Nat → List V → H → Rr) (k : Nat) : E → H → Rr := ((Qxr (dn C k .ret (rQ46 C k)) (rQ46 C k)) X.normal)
def rK46_16 (C : Nat → List V → H → Rr) (k : Nat) (x36 x39 : V) (h : H) : Rr := (rB (vPick x36 x39 (.b false)) fun v1 => (some (v1, h)))
def rJ46_16 (C : Nat → List V → H → Rr) (k : Nat) : E → H → Rr := fun e h => (rK46_16 C k (e 36) (e 39) h)
theorem rp46_16 (C : Nat → List V → H → Rr) (k : Nat) : dnOps C o46_1 (rS46_16 C k) = (rJ46_16 C k) := by
  refine Eq.trans (rapp_eq rfl rfl) ?_
  kernel_rfl
def rS46_17 (C : Nat → List V → H → Rr) (k : Nat) : E → H → Rr := ((Qxr (dn C k .ret (rQ46 C k)) (rQ46 C k)) X.normal)
def rK46_17 (C : Nat → List V → H → Rr) (k : Nat) (x1 x31 x34 : V) (h : H) : Rr := (rB (vPick x31 x34 (.b false)) fun v1 => (rG v1 true (rB (vFa 9 x1) fun v2 => (rB (vLd1 h v2) fun v3 => (rK (C 71 [v3, (.i .i64 65535)] h) fun v4 h5 => (rK46_16 C k v1 v4 h5)))) (rK46_16 C k v1 undefV h)))
def rJ46_17 (C : Nat → List V → H → Rr) (k : Nat) : E → H → Rr := fun e h => (rK46_17 C k (e 1) (e 31) (e 34) h)
theorem rp46_17 (C : Nat → List V → H → Rr) (k : Nat) : dnOps C o46_3 (rS46_17 C k) = (rJ46_17 C k) := by
  refine Eq.trans (rapp_eq (rgrp_eq2 36 true rfl (rp46_16 C k) rfl) rfl) ?_
  kernel_rfl
def rS46_18 (C : Nat → List V → H → Rr) (k : Nat) : E → H → Rr := ((Qxr (dn C k .ret (rQ46 C k)) (rQ46 C k)) X.normal)
def rK46_18 (C : Nat → List V → H → Rr) (k : Nat) (x1 x26 x29 : V) (h : H) : Rr := (rB (vPick x26 x29 (.b false)) fun v1 => (rG v1 true (rB (vFa 6 x1) fun v2 => (rB (vLd1 h v2) fun v3 => (rK (C 71 [v3, (.i .i64 15)] h) fun v4 h5 => (rK46_17 C k x1 v1 v4 h5)))) (rK46_17 C k x1 v1 undefV h)))
def rJ46_18 (C : Nat → List V → H → Rr) (k : Nat) : E → H → Rr := fun e h => (rK46_18 C k (e 1) (e 26) (e 29) h)
theorem rp46_18 (C : Nat → List V → H → Rr) (k : Nat) : dnOps C o46_5 (rS46_18 C k) = (rJ46_18 C k) := by
  refine Eq.trans (rapp_eq (rgrp_eq2 31 true rfl (rp46_17 C k) rfl) rfl) ?_
  kernel_rfl
def rS46_19 (C : Nat → List V → H → Rr) (k : Nat) : E → H → Rr := ((Qxr (dn C k .ret (rQ46 C k)) (rQ46 C k)) X.normal)
def rK46_19 (C : Nat → List V → H → Rr) (k : Nat) (x1 x21 x24 : V) (h : H) : Rr := (rB (vPick x21 x24 (.b false)) fun v1 => (rG v1 true (rB (vFa 4 x1) fun v2 => (rB (vLd1 h v2) fun v3 => (rK (C 71 [v3, (.i .i64 16777215)] h) fun v4 h5 => (rK46_18 C k x1 v1 v4 h5)))) (rK46_18 C k x1 v1 undefV h)))
def rJ46_19 (C : Nat → List V → H → Rr) (k : Nat) : E → H → Rr := fun e h => (rK46_19 C k (e 1) (e 21) (e 24) h)
theorem rp46_19 (C : Nat → List V → H → Rr) (k : Nat) : dnOps C o46_7 (rS46_19 C k) = (rJ46_19 C k) := by
  refine Eq.trans (rapp_eq (rgrp_eq2 26 true rfl (rp46_18 C k) rfl) rfl) ?_
  kernel_rfl
def rS46_20 (C : Nat → List V → H → Rr) (k : Nat) : E → H → Rr := ((Qxr (dn C k .ret (rQ46 C k)) (rQ46 C k)) X.normal)
def rK46_20 (C : Nat → List V → H → Rr) (k : Nat) (x1 x16 x19 : V) (h : H) : Rr := (rB (vPick x16 x19 (.b false)) fun v1 => (rG v1 true (rB (vFa 3 x1) fun v2 => (rB (vLd1 h v2) fun v3 => (rK (C 71 [v3, (.i .i64 15)] h) fun v4 h5 => (rK46_19 C k x1 v1 v4 h5)))) (rK46_19 C k x1 v1 undefV h)))
def rJ46_20 (C : Nat → List V → H → Rr) (k : Nat) : E → H → Rr := fun e h => (rK46_20 C k (e 1) (e 16) (e 19) h)
theorem rp46_20 (C : Nat → List V → H → Rr) (k : Nat) : dnOps C o46_9 (rS46_20 C k) = (rJ46_20 C k) := by
  refine Eq.trans (rapp_eq (rgrp_eq2 21 true rfl (rp46_19 C k) rfl) rfl) ?_
  kernel_rfl
def rS46_21 (C : Nat → List V → H → Rr) (k : Nat) : E → H → Rr := ((Qxr (dn C k .ret (rQ46 C k)) (rQ46 C k)) X.normal)
def rK46_21 (C : Nat → List V → H → Rr) (k : Nat) (x1 x11 x14 : V) (h : H) : Rr := (rB (vPick x11 x14 (.b false)) fun v1 => (rG v1 true (rB (vFa 2 x1) fun v2 => (rB (vLd1 h v2) fun v3 => (rK (C 71 [v3, (.i .i64 3)] h) fun v4 h5 => (rK46_20 C k x1 v1 v4 h5)))) (rK46_20 C k x1 v1 undefV h)))
def rJ46_21 (C : Nat → List V → H → Rr) (k : Nat) : E → H → Rr := fun e h => (rK46_21 C k (e 1) (e 11) (e 14) h)
theorem rp46_21 (C : Nat → List V → H → Rr) (k : Nat) : dnOps C o46_11 (rS46_21 C k) = (rJ46_21 C k) := by
  refine Eq.trans (rapp_eq (rgrp_eq2 16 true rfl (rp46_20 C k) rfl) rfl) ?_
  kernel_rfl
def rS46_22 (C : Nat → List V → H → Rr) (k : Nat) : E → H → Rr := ((Qxr (dn C k .ret (rQ46 C k)) (rQ46 C k)) X.normal)
def rK46_22 (C : Nat → List V → H → Rr) (k : Nat) (x1 x6 x9 : V) (h : H) : Rr := (rB (vPick x6 x9 (.b false)) fun v1 => (rG v1 true (rB (vFa 1 x1) fun v2 => (rB (vLd1 h v2) fun v3 => (rK (C 71 [v3, (.i .i64 3)] h) fun v4 h5 => (rK46_21 C k x1 v1 v4 h5)))) (rK46_21 C k x1 v1 undefV h)))
def rJ46_22 (C : Nat → List V → H → Rr) (k : Nat) : E → H → Rr := fun e h => (rK46_22 C k (e 1) (e 6) (e 9) h)
theorem rp46_22 (C : Nat → List V → H → Rr) (k : Nat) : dnOps C o46_13 (rS46_22 C k) = (rJ46_22 C k) := by
  refine Eq.trans (rapp_eq (rgrp_eq2 11 true rfl (rp46_21 C k) rfl) rfl) ?_
  kernel_rfl
def rK46 (C : Nat → List V → H → Rr) (k : Nat) (x0 : V) (h : H) : Rr := (rB (vBox x0 h) fun r1 => (rB (vFa 0 r1.1) fun v2 => (rB (vLd1 r1.2 v2) fun v3 => (rB (bin .geq v3 (.i .i64 1)) fun v4 => (rG v4 true (rB (vFa 0 r1.1) fun v5 => (rB (vLd1 r1.2 v5) fun v6 => (rB (bin .leq v6 (.i .i64 10)) fun v7 => (rK46_22 C k r1.1 v4 v7 r1.2)))) (rK46_22 C k r1.1 v4 undefV r1.2))))))
theorem rp46 (C : Nat → List V → H → Rr) (k : Nat) : dn C k c46 (rQ46 C k) = fun e h => (rK46 C k (e 0) h) := by
  refine Eq.trans (rseq_eq (rseq_eq rfl (rregion_eq (rapp_eq (rgrp_eq2 6 true rfl (rp46_22 C k) rfl) rfl))) rfl) ?_
  kernel_rfl
def F46 : RF := fun C k a h => match a with
  | [a0] => rK46 C k a0 h
  | _ => none
theorem ro46 : RunOK IP 46 F46 := ⟨ir46, ip46, by kernel_rfl, fun C k a h r e => by
  unfold F46 at e
  split at e
  · exact ⟨by kernel_rfl, (congrFun (congrFun (rp46 C k) _) h).trans e⟩
  · cases e⟩
theorem ip47 : IP 47 = some ir47 := rfl
def rQ47 (C : Nat → List V → H → Rr) (k : Nat) : X → E → H → Rr := Qrr rs47
def rK47 (C : Nat → List V → H → Rr) (k : Nat) (x0 x1 x2 : V) (h : H) : Rr := (rB (vBox x0 h) fun r1 => (rB (vLdA r1.2 2 r1.1) fun v2 => (rK (C 72 [v2] r1.2) fun v3 h4 => (rB (un .not v3) fun v5 => (rS v5 (some (x1, h4)) (rB (vLdA h4 2 r1.1) fun v6 => (rK (C 73 [v6] h4) fun v7 h8 => (rB (bin .andNot x1 v7) fun v9 => (rB (vLdA h8 2 r1.1) fun v10 => (rK (C 74 [v10] h8) fun v11 h12 => (rB (foldO min2 x2 [v11]) fun v13 => (rB (vFa 0 r1.1) fun v14 => (rB (vLd1 h12 v14) fun v15 => (rB (bin .shl v13 v15) fun v16 => (rB (bin .or v9 v16) fun v17 => (rC (stdy true 2 r1.1 h4 h8) (rC (stdy false 1 v14 h4 h8) (rC (stdy false 1 v14 h8 h12) (some (v17, h12))))))))))))))))))))
theorem rp47 (C : Nat → List V → H → Rr) (k : Nat) : dn C k c47 (rQ47 C k) = fun e h => (rK47 C k (e 0) (e 1) (e 2) h) := by kernel_rfl
def F47 : RF := fun C k a h => match a with
  | [a0, a1, a2] => rK47 C k a0 a1 a2 h
  | _ => none
theorem ro47 : RunOK IP 47 F47 := ⟨ir47, ip47, by kernel_rfl, fun C k a h r e => by
  unfold F47 at e
  split at e
  · exact ⟨by kernel_rfl, (congrFun (congrFun (rp47 C k) _) h).trans e⟩
  · cases e⟩
theorem ip48 : IP 48 = some ir48 := rfl
def rQ48 (C : Nat → List V → H → Rr) (k : Nat) : X → E → H → Rr := Qrr rs48
def rK48 (C : Nat → List V → H → Rr) (k : Nat) (x0 : V) (h : H) : Rr := (rS x0 (some ((.i .u64 1), h)) (some ((.i .u64 0), h)))
theorem rp48 (C : Nat → List V → H → Rr) (k : Nat) : dn C k c48 (rQ48 C k) = fun e h => (rK48 C k (e 0) h) := by kernel_rfl
def F48 : RF := fun C k a h => match a with
  | [a0] => rK48 C k a0 h
  | _ => none
theorem ro48 : RunOK IP 48 F48 := ⟨ir48, ip48, by kernel_rfl, fun C k a h r e => by
  unfold F48 at e
  split at e
  · exact ⟨by kernel_rfl, (congrFun (congrFun (rp48 C k) _) h).trans e⟩
  · cases e⟩
theorem ip49 : IP 49 = some ir49 := rfl
def rQ49 (C : Nat → List V → H → Rr) (k : Nat) : X → E → H → Rr := Qrr rs49
def rK49 (C : Nat → List V → H → Rr) (k : Nat) (x0 x1 : V) (h : H) : Rr := (rK (C 70 [x0, x1] h) fun v1 h2 => (rB (un .not v1) fun v3 => (rS v3 (some ((.i .u64 0), h2)) (rB (vNilc x0) fun v4 => (rB (vFa 0 v4) fun v5 => (rB (vLd1 h2 v5) fun v6 => (rB (vIa 1 v6 x1) fun v7 => (rB (vLd1 h2 v7) fun v8 => (some (v8, h2))))))))))
theorem rp49 (C : Nat → List V → H → Rr) (k : Nat) : dn C k c49 (rQ49 C k) = fun e h => (rK49 C k (e 0) (e 1) h) := by kernel_rfl
def F49 : RF := fun C k a h => match a with
  | [a0, a1] => rK49 C k a0 a1 h
  | _ => none
theorem ro49 : RunOK IP 49 F49 := ⟨ir49, ip49, by kernel_rfl, fun C k a h r e => by
  unfold F49 at e
  split at e
  · exact ⟨by kernel_rfl, (congrFun (congrFun (rp49 C k) _) h).trans e⟩
  · cases e⟩
theorem ip50 : IP 50 = some ir50 := rfl
def rQ50 (C : Nat → List V → H → Rr) (k : Nat) : X → E → H → Rr := Qrr rs50
def rK50 (C : Nat → List V → H → Rr) (k : Nat) (x0 : V) (h : H) : Rr := (rB (vBox x0 h) fun r1 => (rB (vLdA r1.2 2 r1.1) fun v2 => (rK (C 39 [v2] r1.2) fun v3 h4 => (rB (un .not v3) fun v5 => (rS v5 (some ((.i .i64 (-1)), h4)) (rB (vFa 0 r1.1) fun v6 => (rB (vLd1 h4 v6) fun v7 => (some (v7, h4)))))))))
theorem rp50 (C : Nat → List V → H → Rr) (k : Nat) : dn C k c50 (rQ50 C k) = fun e h => (rK50 C k (e 0) h) := by kernel_rfl
def F50 : RF := fun C k a h => match a with
  | [a0] => rK50 C k a0 h
  | _ => none
theorem ro50 : RunOK IP 50 F50 := ⟨ir50, ip50, by kernel_rfl, fun C k a h r e => by
  unfold F50 at e
  split at e
  · exact ⟨by kernel_rfl, (congrFun (congrFun (rp50 C k) _) h).trans e⟩
  · cases e⟩
theorem ip51 : IP 51 = some ir51 := rfl
def rQ51 (C : Nat → List V → H → Rr) (k : Nat) : X → E → H → Rr := Qrr rs51
def rQ51_1 (C : Nat → List V → H → Rr) (k : Nat) : X → E → H → Rr := (rQ51 C k)
def rK51_1 (C : Nat → List V → H → Rr) (k : Nat) (x2 x4 : V) (h : H) : Rr := (rB (vLdA h 9 x2) fun v1 => (rB (vStore h 9 x4 v1) fun r2 => (rB (vLdA r2.2 9 x4) fun v3 => (some (v3, r2.2)))))
def rJ51_1 (C : Nat → List V → H → Rr) (k : Nat) : E → H → Rr := fun e h => (rK51_1 C k (e 2) (e 4) h)
theorem rp51_1 (C : Nat → List V → H → Rr) (k : Nat) : dn C k c51_1 (rQ51_1 C k) = (rJ51_1 C k) := by kernel_rfl
def rQ51_2 (C : Nat → List V → H → Rr) (k : Nat) : X → E → H → Rr := (Qbr 0 (Qxr (rJ51_1 C k) (rQ51 C k)))
def rQ51_3 (C : Nat → List V → H → Rr) (k : Nat) : X → E → H → Rr := (rQ51_2 C k)
def rK51_3 (C : Nat → List V → H → Rr) (k : Nat) (x2 x4 x22 : V) (h : H) : Rr := (rS x22 (rB (vFa 8 x2) fun v1 => (rB (vStore h 1 v1 (.b true)) fun r2 => (rK51_1 C k x2 x4 r2.2))) (rB (vFa 6 x2) fun v3 => (rB (vStore h 1 v3 (.i .i64 0)) fun r4 => (rK51_1 C k x2 x4 r4.2))))
def rJ51_3 (C : Nat → List V → H → Rr) (k : Nat) : E → H → Rr := fun e h => (rK51_3 C k (e 2) (e 4) (e 22) h)
theorem rp51_3 (C : Nat → List V → H → Rr) (k : Nat) : dn C k c51_3 (rQ51_3 C k) = (rJ51_3 C k) := by kernel_rfl
def rS51_7 (C : Nat → List V → H → Rr) (k : Nat) : E → H → Rr := ((Qxr (rJ51_3 C k) (rQ51_2 C k)) X.normal)
def rK51_7 (C : Nat → List V → H → Rr) (k : Nat) (x2 x4 x27 x29 : V) (h : H) : Rr := (rB (vPick x27 (.b true) x29) fun v1 => (rK51_3 C k x2 x4 v1 h))
def rJ51_7 (C : Nat → List V → H → Rr) (k : Nat) : E → H → Rr := fun e h => (rK51_7 C k (e 2) (e 4) (e 27) (e 29) h)
theorem rp51_7 (C : Nat → List V → H → Rr) (k : Nat) : dnOps C o51_4 (rS51_7 C k) = (rJ51_7 C k) := by
  refine Eq.trans (rapp_eq rfl rfl) ?_
  kernel_rfl
def rK51_2 (C : Nat → List V → H → Rr) (k : Nat) (x1 x2 x4 x6 : V) (h : H) : Rr := (rS x6 (rB (vFa 6 x2) fun v1 => (rB (vStore h 1 v1 (.i .i64 3)) fun r2 => (rK51_1 C k x2 x4 r2.2))) (rB (vFa 5 x2) fun v3 => (rB (vLd1 h v3) fun v4 => (rB (bin .eql x1 v4) fun v5 => (rS v5 (rB (vFa 6 x2) fun v6 => (rB (vStore h 1 v6 (.i .i64 2)) fun r7 => (rK51_1 C k x2 x4 r7.2))) (rB (vFa 5 x2) fun v8 => (rB (vLd1 h v8) fun v9 => (rB (bin .lss x1 v9) fun v10 => (rG v10 false (rB (vFa 7 x2) fun v11 => (rB (vLd1 h v11) fun v12 => (rK51_7 C k x2 x4 v10 v12 h))) (rK51_7 C k x2 x4 v10 undefV h))))))))))
def rJ51_2 (C : Nat → List V → H → Rr) (k : Nat) : E → H → Rr := fun e h => (rK51_2 C k (e 1) (e 2) (e 4) (e 6) h)
theorem rp51_2 (C : Nat → List V → H → Rr) (k : Nat) : dn C k c51_2 (rQ51_2 C k) = (rJ51_2 C k) := by
  refine Eq.trans (rcond_eq rfl (rseq_eq (rcond_eq rfl (rseq_eq (rp51_3 C k) (rregion_eq (rapp_eq (rgrp_eq2 27 false rfl (rp51_7 C k) rfl) rfl)))) rfl)) ?_
  kernel_rfl
def rS51_11 (C : Nat → List V → H → Rr) (k : Nat) : E → H → Rr := ((Qxr (rJ51_2 C k) (Qbr 0 (Qxr (rJ51_1 C k) (rQ51 C k)))) X.normal)
def rK51_11 (C : Nat → List V → H → Rr) (k : Nat) (x1 x2 x4 x11 x13 : V) (h : H) : Rr := (rB (vPick x11 x13 (.b false)) fun v1 => (rK51_2 C k x1 x2 x4 v1 h))
def rJ51_11 (C : Nat → List V → H → Rr) (k : Nat) : E → H → Rr := fun e h => (rK51_11 C k (e 1) (e 2) (e 4) (e 11) (e 13) h)
theorem rp51_11 (C : Nat → List V → H → Rr) (k : Nat) : dnOps C o51_8 (rS51_11 C k) = (rJ51_11 C k) := by
  refine Eq.trans (rapp_eq rfl rfl) ?_
  kernel_rfl
def rK51 (C : Nat → List V → H → Rr) (k : Nat) (x0 x1 : V) (h : H) : Rr := (rB (vBox x0 h) fun r1 => (rB (some (.p (some (H.nx r1.2, 0)), H.new r1.2 ⟨false, [(.i .i64 0), (.i .i64 0), (.i .u64 0), (.i .u64 0), (.i .u64 0), (.i .u64 0), (.i .i64 0), (.b false), (.b false)]⟩)) fun r2 => (rB (vFa 5 r1.1) fun v3 => (rB (vLd1 r2.2 v3) fun v4 => (rB (bin .eql x1 v4) fun v5 => (rG v5 true (rB (vFa 7 r1.1) fun v6 => (rB (vLd1 r2.2 v6) fun v7 => (rK51_11 C k x1 r1.1 r2.1 v5 v7 r2.2))) (rK51_11 C k x1 r1.1 r2.1 v5 undefV r2.2)))))))
theorem rp51 (C : Nat → List V → H → Rr) (k : Nat) : dn C k c51 (rQ51 C k) = fun e h => (rK51 C k (e 0) (e 1) h) := by
  refine Eq.trans (rseq_eq (rseq_eq (rp51_1 C k) (rblock_eq (rseq_eq (rp51_2 C k) (rregion_eq (rapp_eq (rgrp_eq2 11 true rfl (rp51_11 C k) rfl) rfl))))) rfl) ?_
  kernel_rfl
def F51 : RF := fun C k a h => match a with
  | [a0, a1] => rK51 C k a0 a1 h
  | _ => none
theorem ro51 : RunOK IP 51 F51 := ⟨ir51, ip51, by kernel_rfl, fun C k a h r e => by
  unfold F51 at e
  split at e
  · exact ⟨by kernel_rfl, (congrFun (congrFun (rp51 C k) _) h).trans e⟩
  · cases e⟩
theorem ip52 : IP 52 = some ir52 := rfl
def rQ52 (C : Nat → List V → H → Rr) (k : Nat) : X → E → H → Rr := Qrr rs52
def rK52 (C : Nat → List V → H → Rr) (k : Nat) (x0 x1 : V) (h : H) : Rr := (rB (vBox x0 h) fun r1 => (rB (vLdA r1.2 2 r1.1) fun v2 => (rK (C 39 [v2] r1.2) fun v3 h4 => (rB (un .not v3) fun v5 => (rS v5 (some ((.i .i64 (-1)), h4)) (rB (vLdA h4 2 r1.1) fun v6 => (rK (C 43 [v6, x1] h4) fun v7 h8 => (some (v7, h8)))))))))
theorem rp52 (C : Nat → List V → H → Rr) (k : Nat) : dn C k c52 (rQ52 C k) = fun e h => (rK52 C k (e 0) (e 1) h) := by kernel_rfl
def F52 : RF := fun C k a h => match a with
  | [a0, a1] => rK52 C k a0 a1 h
  | _ => none
theorem ro52 : RunOK IP 52 F52 := ⟨ir52, ip52, by kernel_rfl, fun C k a h r e => by
  unfold F52 at e
  split at e
  · exact ⟨by kernel_rfl, (congrFun (congrFun (rp52 C k) _) h).trans e⟩
  · cases e⟩
theorem ip53 : IP 53 = some ir53 := rfl
def rQ53 (C : Nat → List V → H → Rr) (k : Nat) : X → E → H → Rr := Qrr rs53
def rQ53_1 (C : Nat → List V → H → Rr) (k : Nat) : X → E → H → Rr := (rQ53 C k)
def rK53_1 (C : Nat → List V → H → Rr) (k : Nat) (x0 x1 x3 : V) (h : H) : Rr := (rB (vNilc x0) fun v1 => (rB (vFa 0 v1) fun v2 => (rB (vLd1 h v2) fun v3 => (rB (vIa 1 v3 x1) fun v4 => (rB (vStore h 1 v4 x3) fun r5 => (some ((.b true), r5.2)))))))
def rJ53_1 (C : Nat → List V → H → Rr) (k : Nat) : E → H → Rr := fun e h => (rK53_1 C k (e 0) (e 1) (e 3) h)
theorem rp53_1 (C : Nat → List V → H → Rr) (k : Nat) : dn C k c53_1 (rQ53_1 C k) = (rJ53_1 C k) := by kernel_rfl
def rQ53_2 (C : Nat → List V → H → Rr) (k : Nat) : X → E → H → Rr := (Qxr (rJ53_1 C k) (rQ53 C k))
def rK53_2 (C : Nat → List V → H → Rr) (k : Nat) (x0 x1 x3 x23 : V) (h : H) : Rr := (rS x23 (some ((.b false), h)) (rK53_1 C k x0 x1 x3 h))
def rJ53_2 (C : Nat → List V → H → Rr) (k : Nat) : E → H → Rr := fun e h => (rK53_2 C k (e 0) (e 1) (e 3) (e 23) h)
theorem rp53_2 (C : Nat → List V → H → Rr) (k : Nat) : dn C k c53_2 (rQ53_2 C k) = (rJ53_2 C k) := by kernel_rfl
def rS53_6 (C : Nat → List V → H → Rr) (k : Nat) : E → H → Rr := ((Qxr (rJ53_2 C k) (Qxr (rJ53_1 C k) (rQ53 C k))) X.normal)
def rK53_6 (C : Nat → List V → H → Rr) (k : Nat) (x0 x1 x3 x13 x22 : V) (h : H) : Rr := (rB (vPick x13 (.b true) x22) fun v1 => (rK53_2 C k x0 x1 x3 v1 h))
def rJ53_6 (C : Nat → List V → H → Rr) (k : Nat) : E → H → Rr := fun e h => (rK53_6 C k (e 0) (e 1) (e 3) (e 13) (e 22) h)
theorem rp53_6 (C : Nat → List V → H → Rr) (k : Nat) : dnOps C o53_3 (rS53_6 C k) = (rJ53_6 C k) := by
  refine Eq.trans (rapp_eq rfl rfl) ?_
  kernel_rfl
def rK53 (C : Nat → List V → H → Rr) (k : Nat) (x0 x1 x2 x3 : V) (h : H) : Rr := (rK (C 70 [x0, x1] h) fun v1 h2 => (rB (un .not v1) fun v3 => (rG v3 false (rB (vNilc x0) fun v4 => (rB (vFa 0 v4) fun v5 => (rB (vLd1 h2 v5) fun v6 => (rB (vIa 1 v6 x1) fun v7 => (rB (vLd1 h2 v7) fun v8 => (rB (bin .neq v8 x2) fun v9 => (rK53_6 C k x0 x1 x3 v3 v9 h2))))))) (rK53_6 C k x0 x1 x3 v3 undefV h2))))
theorem rp53 (C : Nat → List V → H → Rr) (k : Nat) : dn C k c53 (rQ53 C k) = fun e h => (rK53 C k (e 0) (e 1) (e 2) (e 3) h) := by
  refine Eq.trans (rseq_eq (rseq_eq (rp53_1 C k) (rseq_eq (rp53_2 C k) (rregion_eq (rapp_eq (rgrp_eq2 13 false rfl (rp53_6 C k) rfl) rfl)))) rfl) ?_
  kernel_rfl
def F53 : RF := fun C k a h => match a with
  | [a0, a1, a2, a3] => rK53 C k a0 a1 a2 a3 h
  | _ => none
theorem ro53 : RunOK IP 53 F53 := ⟨ir53, ip53, by kernel_rfl, fun C k a h r e => by
  unfold F53 at e
  split at e
  · exact ⟨by kernel_rfl, (congrFun (congrFun (rp53 C k) _) h).trans e⟩
  · cases e⟩
theorem ip54 : IP 54 = some ir54 := rfl
def rQ54 (C : Nat → List V → H → Rr) (k : Nat) : X → E → H → Rr := Qrr rs54
def rQ54_1 (C : Nat → List V → H → Rr) (k : Nat) : X → E → H → Rr := (rQ54 C k)
def rK54_1 (C : Nat → List V → H → Rr) (k : Nat) (x1 x2 x3 : V) (h : H) : Rr := (rB (vLdA h 2 x3) fun v1 => (rK (C 43 [v1, x1] h) fun v2 h3 => (rB (bin .add v2 (.i .i64 1)) fun v4 => (rB (bin .add v4 x2) fun v5 => (some (v5, h3))))))
def rJ54_1 (C : Nat → List V → H → Rr) (k : Nat) : E → H → Rr := fun e h => (rK54_1 C k (e 1) (e 2) (e 3) h)
theorem rp54_1 (C : Nat → List V → H → Rr) (k : Nat) : dn C k c54_1 (rQ54_1 C k) = (rJ54_1 C k) := by kernel_rfl
def rQ54_2 (C : Nat → List V → H → Rr) (k : Nat) : X → E → H → Rr := (Qxr (rJ54_1 C k) (rQ54 C k))
def rK54_2 (C : Nat → List V → H → Rr) (k : Nat) (x1 x2 x3 x17 : V) (h : H) : Rr := (rS x17 (some ((.i .i64 (-1)), h)) (rK54_1 C k x1 x2 x3 h))
def rJ54_2 (C : Nat → List V → H → Rr) (k : Nat) : E → H → Rr := fun e h => (rK54_2 C k (e 1) (e 2) (e 3) (e 17) h)
theorem rp54_2 (C : Nat → List V → H → Rr) (k : Nat) : dn C k c54_2 (rQ54_2 C k) = (rJ54_2 C k) := by kernel_rfl
def rS54_8 (C : Nat → List V → H → Rr) (k : Nat) : E → H → Rr := ((Qxr (rJ54_2 C k) (Qxr (rJ54_1 C k) (rQ54 C k))) X.normal)
def rK54_8 (C : Nat → List V → H → Rr) (k : Nat) (x1 x2 x3 x14 x16 : V) (h : H) : Rr := (rB (vPick x14 (.b true) x16) fun v1 => (rK54_2 C k x1 x2 x3 v1 h))
def rJ54_8 (C : Nat → List V → H → Rr) (k : Nat) : E → H → Rr := fun e h => (rK54_8 C k (e 1) (e 2) (e 3) (e 14) (e 16) h)
theorem rp54_8 (C : Nat → List V → H → Rr) (k : Nat) : dnOps C o54_3 (rS54_8 C k) = (rJ54_8 C k) := by
  refine Eq.trans (rapp_eq rfl rfl) ?_
  kernel_rfl
def rS54_9 (C : Nat → List V → H → Rr) (k : Nat) : E → H → Rr := ((Qxr (rJ54_2 C k) (Qxr (rJ54_1 C k) (rQ54 C k))) X.normal)
def rK54_9 (C : Nat → List V → H → Rr) (k : Nat) (x1 x2 x3 x10 x12 : V) (h : H) : Rr := (rB (vPick x10 (.b true) x12) fun v1 => (rG v1 false (rB (bin .geq x2 (.i .i64 3)) fun v2 => (rK54_8 C k x1 x2 x3 v1 v2 h)) (rK54_8 C k x1 x2 x3 v1 undefV h)))
def rJ54_9 (C : Nat → List V → H → Rr) (k : Nat) : E → H → Rr := fun e h => (rK54_9 C k (e 1) (e 2) (e 3) (e 10) (e 12) h)
theorem rp54_9 (C : Nat → List V → H → Rr) (k : Nat) : dnOps C o54_5 (rS54_9 C k) = (rJ54_9 C k) := by
  refine Eq.trans (rapp_eq (rgrp_eq2 14 false rfl (rp54_8 C k) rfl) rfl) ?_
  kernel_rfl
def rK54 (C : Nat → List V → H → Rr) (k : Nat) (x0 x1 x2 : V) (h : H) : Rr := (rB (vBox x0 h) fun r1 => (rB (vLdA r1.2 2 r1.1) fun v2 => (rK (C 39 [v2] r1.2) fun v3 h4 => (rB (un .not v3) fun v5 => (rG v5 false (rB (bin .lss x2 (.i .i64 0)) fun v6 => (rK54_9 C k x1 x2 r1.1 v5 v6 h4)) (rK54_9 C k x1 x2 r1.1 v5 undefV h4))))))
theorem rp54 (C : Nat → List V → H → Rr) (k : Nat) : dn C k c54 (rQ54 C k) = fun e h => (rK54 C k (e 0) (e 1) (e 2) h) := by
  refine Eq.trans (rseq_eq (rseq_eq (rp54_1 C k) (rseq_eq (rp54_2 C k) (rregion_eq (rapp_eq (rgrp_eq2 10 false rfl (rp54_9 C k) rfl) rfl)))) rfl) ?_
  kernel_rfl
def F54 : RF := fun C k a h => match a with
  | [a0, a1, a2] => rK54 C k a0 a1 a2 h
  | _ => none
theorem ro54 : RunOK IP 54 F54 := ⟨ir54, ip54, by kernel_rfl, fun C k a h r e => by
  unfold F54 at e
  split at e
  · exact ⟨by kernel_rfl, (congrFun (congrFun (rp54 C k) _) h).trans e⟩
  · cases e⟩
theorem ip55 : IP 55 = some ir55 := rfl
def rQ55 (C : Nat → List V → H → Rr) (k : Nat) : X → E → H → Rr := Qrr rs55
def rK55 (C : Nat → List V → H → Rr) (k : Nat) (x0 x1 : V) (h : H) : Rr := (rB (vBox x0 h) fun r1 => (rB (vLdA r1.2 2 r1.1) fun v2 => (rK (C 72 [v2] r1.2) fun v3 h4 => (rB (un .not v3) fun v5 => (rS v5 (some ((.i .u64 0), h4)) (rB (vFa 0 r1.1) fun v6 => (rB (vLd1 h4 v6) fun v7 => (rB (bin .shr x1 v7) fun v8 => (rB (vLdA h4 2 r1.1) fun v9 => (rK (C 74 [v9] h4) fun v10 h11 => (rB (bin .and v8 v10) fun v12 => (rC (stdy false 1 v6 h4 h11) (some (v12, h11))))))))))))))
theorem rp55 (C : Nat → List V → H → Rr) (k : Nat) : dn C k c55 (rQ55 C k) = fun e h => (rK55 C k (e 0) (e 1) h) := by kernel_rfl
def F55 : RF := fun C k a h => match a with
  | [a0, a1] => rK55 C k a0 a1 h
  | _ => none
theorem ro55 : RunOK IP 55 F55 := ⟨ir55, ip55, by kernel_rfl, fun C k a h r e => by
  unfold F55 at e
  split at e
  · exact ⟨by kernel_rfl, (congrFun (congrFun (rp55 C k) _) h).trans e⟩
  · cases e⟩
theorem ip56 : IP 56 = some ir56 := rfl
def rQ56 (C : Nat → List V → H → Rr) (k : Nat) : X → E → H → Rr := Qrr rs56
def rQ56_1 (C : Nat → List V → H → Rr) (k : Nat) : X → E → H → Rr := (rQ56 C k)
def rK56_1 (C : Nat → List V → H → Rr) (k : Nat) (x0 : V) (h : H) : Rr := (some (x0, h))
def rJ56_1 (C : Nat → List V → H → Rr) (k : Nat) : E → H → Rr := fun e h => (rK56_1 C k (e 0) h)
theorem rp56_1 (C : Nat → List V → H → Rr) (k : Nat) : dn C k c56_1 (rQ56_1 C k) = (rJ56_1 C k) := by kernel_rfl
def rR56_2 (C : Nat → List V → H → Rr) (k : Nat) : X → E → H → Rr := (Qbr 0 (Qxr (rJ56_1 C k) (rQ56 C k)))
def rQ56_2 (C : Nat → List V → H → Rr) (k : Nat) (g56_2 : V → V → V → V → H → Rr) : X → E → H → Rr := Qxr (fun e h => g56_2 (e 0) (e 7) (e 8) (e 9) h) (rR56_2 C k)
def rL56_2 (C : Nat → List V → H → Rr) (k : Nat) (g56_2 : V → V → V → V → H → Rr) (x0 x7 x8 x9 : V) (h : H) : Rr := (rB (bin .lss x9 x8) fun v1 => (rS v1 (rB (vIa 2 x7 x9) fun v2 => (rB (vLdA h 2 v2) fun v3 => (rB (some (.p (some (H.nx h, 0)), H.new h ⟨false, [(.i .i64 0), (.i .i64 0)]⟩)) fun r4 => (rB (vStore r4.2 2 r4.1 v3) fun r5 => (rB (vLdA r5.2 2 r4.1) fun v6 => (rK (C 73 [v6] r5.2) fun v7 h8 => (rB (bin .andNot x0 v7) fun v9 => (rB (bin .add x9 (.i .i64 1)) fun v10 => (g56_2 v9 x7 x8 v10 h8))))))))) (rK56_1 C k x0 h)))
theorem rp56_2 (C : Nat → List V → H → Rr) (k : Nat) (g56_2 : V → V → V → V → H → Rr) : dn C k c56_2 (rQ56_2 C k g56_2) = fun e h => (rL56_2 C k g56_2 (e 0) (e 7) (e 8) (e 9) h) := by kernel_rfl
def rW56_2 (C : Nat → List V → H → Rr) (k : Nat) (x0 x7 x8 x9 : V) (h : H) : Rr := rFix k (fun (g : V × V × V × V × Unit → H → Rr) (x : V × V × V × V × Unit) h => rL56_2 C k (fun y0 y7 y8 y9 h => g (y0, y7, y8, y9, ()) h) x.1 x.2.1 x.2.2.1 x.2.2.2.1 h) (x0, x7, x8, x9, ()) h
theorem rn56_2 (C : Nat → List V → H → Rr) (k : Nat) : ∀ g : V × V × V × V × Unit → H → Rr, dn C k c56_2 (Qxr (fun e h => g ((fun e : E => ((e 0, e 7, e 8, e 9, ()) : V × V × V × V × Unit)) e) h) (rR56_2 C k)) = fun e h => (fun (g : V × V × V × V × Unit → H → Rr) (x : V × V × V × V × Unit) h => rL56_2 C k (fun y0 y7 y8 y9 h => g (y0, y7, y8, y9, ()) h) x.1 x.2.1 x.2.2.1 x.2.2.2.1 h) g ((fun e : E => ((e 0, e 7, e 8, e 9, ()) : V × V × V × V × Unit)) e) h := fun g => rp56_2 C k (fun y0 y7 y8 y9 h => g (y0, y7, y8, y9, ()) h)
theorem rw56_2 (C : Nat → List V → H → Rr) (k : Nat) : dn C k (.loop c56_2) (rR56_2 C k) = fun e h => (rW56_2 C k (e 0) (e 7) (e 8) (e 9) h) := rloop_eq (fun e : E => ((e 0, e 7, e 8, e 9, ()) : V × V × V × V × Unit)) (fun (g : V × V × V × V × Unit → H → Rr) (x : V × V × V × V × Unit) h => rL56_2 C k (fun y0 y7 y8 y9 h => g (y0, y7, y8, y9, ()) h) x.1 x.2.1 x.2.2.1 x.2.2.2.1 h) (rn56_2 C k)
def rK56 (C : Nat → List V → H → Rr) (k : Nat) (x0 x1 : V) (h : H) : Rr := (rB (vLens x1) fun v1 => (rW56_2 C k x0 x1 v1 (.i .i64 0) h))
theorem rp56 (C : Nat → List V → H → Rr) (k : Nat) : dn C k c56 (rQ56 C k) = fun e h => (rK56 C k (e 0) (e 1) h) := by
  refine Eq.trans (rseq_eq (rseq_eq (rp56_1 C k) (rseq_eq (rblock_eq (rw56_2 C k)) rfl)) rfl) ?_
  kernel_rfl
def F56 : RF := fun C k a h => match a with
  | [a0, a1] => rK56 C k a0 a1 h
  | _ => none
theorem ro56 : RunOK IP 56 F56 := ⟨ir56, ip56, by kernel_rfl, fun C k a h r e => by
  unfold F56 at e
  split at e
  · exact ⟨by kernel_rfl, (congrFun (congrFun (rp56 C k) _) h).trans e⟩
  · cases e⟩
theorem ip57 : IP 57 = some ir57 := rfl
def rQ57 (C : Nat → List V → H → Rr) (k : Nat) : X → E → H → Rr := Qrr rs57
def rQ57_1 (C : Nat → List V → H → Rr) (k : Nat) : X → E → H → Rr := (rQ57 C k)
def rQ57_2 (C : Nat → List V → H → Rr) (k : Nat) : X → E → H → Rr := (rQ57_1 C k)
def rR57_3 (C : Nat → List V → H → Rr) (k : Nat) : X → E → H → Rr := (Qbr 0 (rQ57_2 C k))
def rQ57_3 (C : Nat → List V → H → Rr) (k : Nat) (g57_3 : V → V → H → Rr) : X → E → H → Rr := Qxr (fun e h => g57_3 (e 0) (e 1) h) (rR57_3 C k)
def rL57_3 (C : Nat → List V → H → Rr) (k : Nat) (g57_3 : V → V → H → Rr) (x0 x1 : V) (h : H) : Rr := (rB (vNilc x0) fun v1 => (rB (vFa 0 v1) fun v2 => (rB (vLd1 h v2) fun v3 => (rB (bin .lss v3 x1) fun v4 => (rS v4 (rK (C 76 [x0] h) fun v5 h6 => (g57_3 x0 x1 h6)) (some ((.tup []), h)))))))
theorem rp57_3 (C : Nat → List V → H → Rr) (k : Nat) (g57_3 : V → V → H → Rr) : dn C k c57_3 (rQ57_3 C k g57_3) = fun e h => (rL57_3 C k g57_3 (e 0) (e 1) h) := by kernel_rfl
def rW57_3 (C : Nat → List V → H → Rr) (k : Nat) (x0 x1 : V) (h : H) : Rr := rFix k (fun (g : V × V × Unit → H → Rr) (x : V × V × Unit) h => rL57_3 C k (fun y0 y1 h => g (y0, y1, ()) h) x.1 x.2.1 h) (x0, x1, ()) h
theorem rn57_3 (C : Nat → List V → H → Rr) (k : Nat) : ∀ g : V × V × Unit → H → Rr, dn C k c57_3 (Qxr (fun e h => g ((fun e : E => ((e 0, e 1, ()) : V × V × Unit)) e) h) (rR57_3 C k)) = fun e h => (fun (g : V × V × Unit → H → Rr) (x : V × V × Unit) h => rL57_3 C k (fun y0 y1 h => g (y0, y1, ()) h) x.1 x.2.1 h) g ((fun e : E => ((e 0, e 1, ()) : V × V × Unit)) e) h := fun g => rp57_3 C k (fun y0 y1 h => g (y0, y1, ()) h)
theorem rw57_3 (C : Nat → List V → H → Rr) (k : Nat) : dn C k (.loop c57_3) (rR57_3 C k) = fun e h => (rW57_3 C k (e 0) (e 1) h) := rloop_eq (fun e : E => ((e 0, e 1, ()) : V × V × Unit)) (fun (g : V × V × Unit → H → Rr) (x : V × V × Unit) h => rL57_3 C k (fun y0 y1 h => g (y0, y1, ()) h) x.1 x.2.1 h) (rn57_3 C k)
def rK57_2 (C : Nat → List V → H → Rr) (k : Nat) (x0 x1 : V) (h : H) : Rr := (rW57_3 C k x0 x1 h)
def rJ57_2 (C : Nat → List V → H → Rr) (k : Nat) : E → H → Rr := fun e h => (rK57_2 C k (e 0) (e 1) h)
theorem rp57_2 (C : Nat → List V → H → Rr) (k : Nat) : dn C k c57_2 (rQ57_2 C k) = (rJ57_2 C k) := by
  refine Eq.trans (rblock_eq (rw57_3 C k)) ?_
  kernel_rfl
def rK57_1 (C : Nat → List V → H → Rr) (k : Nat) (x0 x1 : V) (h : H) : Rr := (rB (vNilc x0) fun v1 => (rB (vFa 0 v1) fun v2 => (rB (vLd1 h v2) fun v3 => (rB (bin .sub x1 v3) fun v4 => (rB (bin .geq v4 (.i .i64 4096)) fun v5 => (rS v5 (rK (C 75 [x0, x1] h) fun v6 h7 => (rK57_2 C k x0 x1 h7)) (rK57_2 C k x0 x1 h)))))))
def rJ57_1 (C : Nat → List V → H → Rr) (k : Nat) : E → H → Rr := fun e h => (rK57_1 C k (e 0) (e 1) h)
theorem rp57_1 (C : Nat → List V → H → Rr) (k : Nat) : dn C k c57_1 (rQ57_1 C k) = (rJ57_1 C k) := by
  refine Eq.trans (rseq_eq (rp57_2 C k) rfl) ?_
  kernel_rfl
def rQ57_4 (C : Nat → List V → H → Rr) (k : Nat) : X → E → H → Rr := (Qxr (rJ57_1 C k) (rQ57 C k))
def rK57_4 (C : Nat → List V → H → Rr) (k : Nat) (x0 x1 x15 : V) (h : H) : Rr := (rS x15 (some ((.tup []), h)) (rK57_1 C k x0 x1 h))
def rJ57_4 (C : Nat → List V → H → Rr) (k : Nat) : E → H → Rr := fun e h => (rK57_4 C k (e 0) (e 1) (e 15) h)
theorem rp57_4 (C : Nat → List V → H → Rr) (k : Nat) : dn C k c57_4 (rQ57_4 C k) = (rJ57_4 C k) := by kernel_rfl
def rS57_8 (C : Nat → List V → H → Rr) (k : Nat) : E → H → Rr := ((Qxr (rJ57_4 C k) (Qxr (rJ57_1 C k) (rQ57 C k))) X.normal)
def rK57_8 (C : Nat → List V → H → Rr) (k : Nat) (x0 x1 x8 x14 : V) (h : H) : Rr := (rB (vPick x8 (.b true) x14) fun v1 => (rK57_4 C k x0 x1 v1 h))
def rJ57_8 (C : Nat → List V → H → Rr) (k : Nat) : E → H → Rr := fun e h => (rK57_8 C k (e 0) (e 1) (e 8) (e 14) h)
theorem rp57_8 (C : Nat → List V → H → Rr) (k : Nat) : dnOps C o57_5 (rS57_8 C k) = (rJ57_8 C k) := by
  refine Eq.trans (rapp_eq rfl rfl) ?_
  kernel_rfl
def rK57 (C : Nat → List V → H → Rr) (k : Nat) (x0 x1 : V) (h : H) : Rr := (rK (C 69 [x1] h) fun v1 h2 => (rB (vEqz false .p x0 (.p none)) fun v3 => (rG v3 false (rB (vNilc x0) fun v4 => (rB (vFa 0 v4) fun v5 => (rB (vLd1 h2 v5) fun v6 => (rB (bin .leq v1 v6) fun v7 => (rK57_8 C k x0 v1 v3 v7 h2))))) (rK57_8 C k x0 v1 v3 undefV h2))))
theorem rp57 (C : Nat → List V → H → Rr) (k : Nat) : dn C k c57 (rQ57 C k) = fun e h => (rK57 C k (e 0) (e 1) h) := by
  refine Eq.trans (rseq_eq (rseq_eq (rp57_1 C k) (rseq_eq (rp57_4 C k) (rregion_eq (rapp_eq (rgrp_eq2 8 false rfl (rp57_8 C k) rfl) rfl)))) rfl) ?_
  kernel_rfl
def F57 : RF := fun C k a h => match a with
  | [a0, a1] => rK57 C k a0 a1 h
  | _ => none
theorem ro57 : RunOK IP 57 F57 := ⟨ir57, ip57, by kernel_rfl, fun C k a h r e => by
  unfold F57 at e
  split at e
  · exact ⟨by kernel_rfl, (congrFun (congrFun (rp57 C k) _) h).trans e⟩
  · cases e⟩
theorem ip58 : IP 58 = some ir58 := rfl
def rQ58 (C : Nat → List V → H → Rr) (k : Nat) : X → E → H → Rr := Qrr rs58
def rQ58_1 (C : Nat → List V → H → Rr) (k : Nat) : X → E → H → Rr := (rQ58 C k)
def rK58_1 (C : Nat → List V → H → Rr) (k : Nat) (x0 x2 x4 : V) (h : H) : Rr := (rB (vNilc x0) fun v1 => (rB (vFa 50 v1) fun v2 => (rB (vLd1 h v2) fun v3 => (rB (vIa 6 v3 x4) fun v4 => (rB (vLdA h 6 v4) fun v5 => (rB (some (.p (some (H.nx h, 0)), H.new h ⟨false, [(.i .i64 0), (.i .i64 0), (.i .i64 0), (.i .i64 0), (.i .i64 0), (.i .i64 0)]⟩)) fun r6 => (rB (vStore r6.2 6 r6.1 v5) fun r7 => (rB (vNilc x0) fun v8 => (rB (vFa 50 v8) fun v9 => (rB (vLd1 r7.2 v9) fun v10 => (rB (slcut 6 v10 none (some x4) (some x4)) fun v11 => (rB (vNilc x0) fun v12 => (rB (vFa 50 v12) fun v13 => (rB (vLd1 r7.2 v13) fun v14 => (rB (bin .add x4 (.i .i64 1)) fun v15 => (rB (slcut 6 v14 (some v15) none none) fun v16 => (rB (vApp 6 48 v11 v16 r7.2) fun r17 => (rB (vNilc x0) fun v18 => (rB (vFa 50 v18) fun v19 => (rB (vStore r17.2 1 v19 r17.1) fun r20 => (rB (vNilc x0) fun v21 => (rB (vFa 51 v21) fun v22 => (rB (vLd1 r20.2 v22) fun v23 => (rB (bin .sub v23 (.i .i64 1)) fun v24 => (rB (vNilc x0) fun v25 => (rB (vFa 51 v25) fun v26 => (rB (vStore r20.2 1 v26 v24) fun r27 => (rB (vFa 0 r6.1) fun v28 => (rB (vLdA r27.2 5 v28) fun v29 => (rB (vStore r27.2 5 x2 v29) fun r30 => (rB (vLdA r30.2 5 x2) fun v31 => (some ((.tup [v31, (.b true)]), r30.2)))))))))))))))))))))))))))))))))
def rJ58_1 (C : Nat → List V → H → Rr) (k : Nat) : E → H → Rr := fun e h => (rK58_1 C k (e 0) (e 2) (e 4) h)
theorem rp58_1 (C : Nat → List V → H → Rr) (k : Nat) : dn C k c58_1 (rQ58_1 C k) = (rJ58_1 C k) := by kernel_rfl
def rR58_2 (C : Nat → List V → H → Rr) (k : Nat) : X → E → H → Rr := (Qbr 0 (Qxr (rJ58_1 C k) (rQ58 C k)))
def rQ58_2 (C : Nat → List V → H → Rr) (k : Nat) (g58_2 : V → V → V → V → V → V → H → Rr) : X → E → H → Rr := Qxr (fun e h => g58_2 (e 0) (e 2) (e 4) (e 15) (e 16) (e 17) h) (rR58_2 C k)
def rQ58_3 (C : Nat → List V → H → Rr) (k : Nat) (g58_2 : V → V → V → V → V → V → H → Rr) : X → E → H → Rr := (rQ58_2 C k g58_2)
def rK58_3 (C : Nat → List V → H → Rr) (k : Nat) (g58_2 : V → V → V → V → V → V → H → Rr) (x0 x2 x4 x15 x16 x17 : V) (h : H) : Rr := (rB (bin .add x17 (.i .i64 1)) fun v1 => (g58_2 x0 x2 x4 x15 x16 v1 h))
def rJ58_3 (C : Nat → List V → H → Rr) (k : Nat) (g58_2 : V → V → V → V → V → V → H → Rr) : E → H → Rr := fun e h => (rK58_3 C k g58_2 (e 0) (e 2) (e 4) (e 15) (e 16) (e 17) h)
theorem rp58_3 (C : Nat → List V → H → Rr) (k : Nat) (g58_2 : V → V → V → V → V → V → H → Rr) : dn C k c58_3 (rQ58_3 C k g58_2) = (rJ58_3 C k g58_2) := by kernel_rfl
def rL58_2 (C : Nat → List V → H → Rr) (k : Nat) (g58_2 : V → V → V → V → V → V → H → Rr) (x0 x2 x4 x15 x16 x17 : V) (h : H) : Rr := (rB (bin .lss x17 x16) fun v1 => (rS v1 (rB (vIa 6 x15 x17) fun v2 => (rB (vLdA h 6 v2) fun v3 => (rB (some (.p (some (H.nx h, 0)), H.new h ⟨false, [(.i .i64 0), (.i .i64 0), (.i .i64 0), (.i .i64 0), (.i .i64 0), (.i .i64 0)]⟩)) fun r4 => (rB (vStore r4.2 6 r4.1 v3) fun r5 => (rB (vLdA r5.2 6 r4.1) fun v6 => (rB (vNilc x0) fun v7 => (rB (vFa 50 v7) fun v8 => (rB (vLd1 r5.2 v8) fun v9 => (rB (vIa 6 v9 x4) fun v10 => (rB (vLdA r5.2 6 v10) fun v11 => (rK (C 78 [v6, v11] r5.2) fun v12 h13 => (rS v12 (rK58_3 C k g58_2 x0 x2 x17 x15 x16 x17 h13) (rK58_3 C k g58_2 x0 x2 x4 x15 x16 x17 h13))))))))))))) (rK58_1 C k x0 x2 x4 h)))
theorem rp58_2 (C : Nat → List V → H → Rr) (k : Nat) (g58_2 : V → V → V → V → V → V → H → Rr) : dn C k c58_2 (rQ58_2 C k g58_2) = fun e h => (rL58_2 C k g58_2 (e 0) (e 2) (e 4) (e 15) (e 16) (e 17) h) := by
  refine Eq.trans (rseq_eq (rseq_eq (rseq_eq (rp58_3 C k g58_2) rfl) rfl) rfl) ?_
  kernel_rfl
def rW58_2 (C : Nat → List V → H → Rr) (k : Nat) (x0 x2 x4 x15 x16 x17 : V) (h : H) : Rr := rFix k (fun (g : V × V × V × V × V × V × Unit → H → Rr) (x : V × V × V × V × V × V × Unit) h => rL58_2 C k (fun y0 y2 y4 y15 y16 y17 h => g (y0, y2, y4, y15, y16, y17, ()) h) x.1 x.2.1 x.2.2.1 x.2.2.2.1 x.2.2.2.2.1 x.2.2.2.2.2.1 h) (x0, x2, x4, x15, x16, x17, ()) h
theorem rn58_2 (C : Nat → List V → H → Rr) (k : Nat) : ∀ g : V × V × V × V × V × V × Unit → H → Rr, dn C k c58_2 (Qxr (fun e h => g ((fun e : E => ((e 0, e 2, e 4, e 15, e 16, e 17, ()) : V × V × V × V × V × V × Unit)) e) h) (rR58_2 C k)) = fun e h => (fun (g : V × V × V × V × V × V × Unit → H → Rr) (x : V × V × V × V × V × V × Unit) h => rL58_2 C k (fun y0 y2 y4 y15 y16 y17 h => g (y0, y2, y4, y15, y16, y17, ()) h) x.1 x.2.1 x.2.2.1 x.2.2.2.1 x.2.2.2.2.1 x.2.2.2.2.2.1 h) g ((fun e : E => ((e 0, e 2, e 4, e 15, e 16, e 17, ()) : V × V × V × V × V × V × Unit)) e) h := fun g => rp58_2 C k (fun y0 y2 y4 y15 y16 y17 h => g (y0, y2, y4, y15, y16, y17, ()) h)
theorem rw58_2 (C : Nat → List V → H → Rr) (k : Nat) : dn C k (.loop c58_2) (rR58_2 C k) = fun e h => (rW58_2 C k (e 0) (e 2) (e 4) (e 15) (e 16) (e 17) h) := rloop_eq (fun e : E => ((e 0, e 2, e 4, e 15, e 16, e 17, ()) : V × V × V × V × V × V × Unit)) (fun (g : V × V × V × V × V × V × Unit → H → Rr) (x : V × V × V × V × V × V × Unit) h => rL58_2 C k (fun y0 y2 y4 y15 y16 y17 h => g (y0, y2, y4, y15, y16, y17, ()) h) x.1 x.2.1 x.2.2.1 x.2.2.2.1 x.2.2.2.2.1 x.2.2.2.2.2.1 h) (rn58_2 C k)
def rK58 (C : Nat → List V → H → Rr) (k : Nat) (x0 : V) (h : H) : Rr := (rB (some (.p (some (H.nx h, 0)), H.new h ⟨false, [(.i .i64 0), (.i .i64 0), (.i .i64 0), (.i .i64 0), (.i .i64 0)]⟩)) fun r1 => (rK (C 77 [x0] r1.2) fun v2 h3 => (rB (bin .eql v2 (.i .i64 0)) fun v4 => (rS v4 (rB (vBld [(.i .i64 0), (.i .i64 0), (.i .i64 0), (.i .i64 0), (.i .i64 0)] []) fun v5 => (rB (vStore h3 5 r1.1 v5) fun r6 => (rB (vLdA r6.2 5 r1.1) fun v7 => (some ((.tup [v7, (.b false)]), r6.2))))) (rB (vNilc x0) fun v8 => (rB (vFa 50 v8) fun v9 => (rB (vLd1 h3 v9) fun v10 => (rB (vLens v10) fun v11 => (rW58_2 C k x0 r1.1 (.i .i64 0) v10 v11 (.i .i64 0) h3)))))))))
theorem rp58 (C : Nat → List V → H → Rr) (k : Nat) : dn C k c58 (rQ58 C k) = fun e h => (rK58 C k (e 0) h) := by
  refine Eq.trans (rseq_eq (rseq_eq (rseq_eq (rseq_eq (rp58_1 C k) (rseq_eq (rblock_eq (rw58_2 C k)) rfl)) rfl) rfl) rfl) ?_
  kernel_rfl
def F58 : RF := fun C k a h => match a with
  | [a0] => rK58 C k a0 h
  | _ => none
theorem ro58 : RunOK IP 58 F58 := ⟨ir58, ip58, by kernel_rfl, fun C k a h r e => by
  unfold F58 at e
  split at e
  · exact ⟨by kernel_rfl, (congrFun (congrFun (rp58 C k) _) h).trans e⟩
  · cases e⟩
theorem ip59 : IP 59 = some ir59 := rfl
def rQ59 (C : Nat → List V → H → Rr) (k : Nat) : X → E → H → Rr := Qrr rs59
def rQ59_1 (C : Nat → List V → H → Rr) (k : Nat) : X → E → H → Rr := (rQ59 C k)
def rK59_1 (C : Nat → List V → H → Rr) (k : Nat) (x0 x5 : V) (h : H) : Rr := (rB (slcut 5 x0 (some x5) none none) fun v1 => (rB (vClear [(.i .i64 0), (.i .i64 0), (.i .i64 0), (.i .i64 0), (.i .i64 0)] v1 h) fun r2 => (rB (slcut 5 x0 none (some x5) none) fun v3 => (some (v3, r2.2)))))
def rJ59_1 (C : Nat → List V → H → Rr) (k : Nat) : E → H → Rr := fun e h => (rK59_1 C k (e 0) (e 5) h)
theorem rp59_1 (C : Nat → List V → H → Rr) (k : Nat) : dn C k c59_1 (rQ59_1 C k) = (rJ59_1 C k) := by kernel_rfl
def rR59_2 (C : Nat → List V → H → Rr) (k : Nat) : X → E → H → Rr := (Qbr 0 (Qxr (rJ59_1 C k) (rQ59 C k)))
def rQ59_2 (C : Nat → List V → H → Rr) (k : Nat) (g59_2 : V → V → V → V → H → Rr) : X → E → H → Rr := Qxr (fun e h => g59_2 (e 0) (e 1) (e 5) (e 6) h) (rR59_2 C k)
def rQ59_3 (C : Nat → List V → H → Rr) (k : Nat) (g59_2 : V → V → V → V → H → Rr) : X → E → H → Rr := (rQ59_2 C k g59_2)
def rK59_3 (C : Nat → List V → H → Rr) (k : Nat) (g59_2 : V → V → V → V → H → Rr) (x0 x1 x5 x6 : V) (h : H) : Rr := (rB (bin .add x6 (.i .i64 1)) fun v1 => (g59_2 x0 x1 x5 v1 h))
def rJ59_3 (C : Nat → List V → H → Rr) (k : Nat) (g59_2 : V → V → V → V → H → Rr) : E → H → Rr := fun e h => (rK59_3 C k g59_2 (e 0) (e 1) (e 5) (e 6) h)
theorem rp59_3 (C : Nat → List V → H → Rr) (k : Nat) (g59_2 : V → V → V → V → H → Rr) : dn C k c59_3 (rQ59_3 C k g59_2) = (rJ59_3 C k g59_2) := by kernel_rfl
def rL59_2 (C : Nat → List V → H → Rr) (k : Nat) (g59_2 : V → V → V → V → H → Rr) (x0 x1 x5 x6 : V) (h : H) : Rr := (rB (vLens x0) fun v1 => (rB (bin .lss x6 v1) fun v2 => (rS v2 (rB (vIa 5 x0 x6) fun v3 => (rB (vLdA h 5 v3) fun v4 => (rB (some (.p (some (H.nx h, 0)), H.new h ⟨false, [(.i .i64 0), (.i .i64 0), (.i .i64 0), (.i .i64 0), (.i .i64 0)]⟩)) fun r5 => (rB (vStore r5.2 5 r5.1 v4) fun r6 => (rB (vLdA r6.2 5 r5.1) fun v7 => (rK (rV C x1 [v7] r6.2) fun v8 h9 => (rB (un .not v8) fun v10 => (rS v10 (rB (vLdA h9 5 r5.1) fun v11 => (rB (vIa 5 x0 x5) fun v12 => (rB (vStore h9 5 v12 v11) fun r13 => (rB (bin .add x5 (.i .i64 1)) fun v14 => (rK59_3 C k g59_2 x0 x1 v14 x6 r13.2))))) (rK59_3 C k g59_2 x0 x1 x5 x6 h9))))))))) (rK59_1 C k x0 x5 h))))
theorem rp59_2 (C : Nat → List V → H → Rr) (k : Nat) (g59_2 : V → V → V → V → H → Rr) : dn C k c59_2 (rQ59_2 C k g59_2) = fun e h => (rL59_2 C k g59_2 (e 0) (e 1) (e 5) (e 6) h) := by
  refine Eq.trans (rseq_eq (rseq_eq (rp59_3 C k g59_2) rfl) rfl) ?_
  kernel_rfl
def rW59_2 (C : Nat → List V → H → Rr) (k : Nat) (x0 x1 x5 x6 : V) (h : H) : Rr := rFix k (fun (g : V × V × V × V × Unit → H → Rr) (x : V × V × V × V × Unit) h => rL59_2 C k (fun y0 y1 y5 y6 h => g (y0, y1, y5, y6, ()) h) x.1 x.2.1 x.2.2.1 x.2.2.2.1 h) (x0, x1, x5, x6, ()) h
theorem rn59_2 (C : Nat → List V → H → Rr) (k : Nat) : ∀ g : V × V × V × V × Unit → H → Rr, dn C k c59_2 (Qxr (fun e h => g ((fun e : E => ((e 0, e 1, e 5, e 6, ()) : V × V × V × V × Unit)) e) h) (rR59_2 C k)) = fun e h => (fun (g : V × V × V × V × Unit → H → Rr) (x : V × V × V × V × Unit) h => rL59_2 C k (fun y0 y1 y5 y6 h => g (y0, y1, y5, y6, ()) h) x.1 x.2.1 x.2.2.1 x.2.2.2.1 h) g ((fun e : E => ((e 0, e 1, e 5, e 6, ()) : V × V × V × V × Unit)) e) h := fun g => rp59_2 C k (fun y0 y1 y5 y6 h => g (y0, y1, y5, y6, ()) h)
theorem rw59_2 (C : Nat → List V → H → Rr) (k : Nat) : dn C k (.loop c59_2) (rR59_2 C k) = fun e h => (rW59_2 C k (e 0) (e 1) (e 5) (e 6) h) := rloop_eq (fun e : E => ((e 0, e 1, e 5, e 6, ()) : V × V × V × V × Unit)) (fun (g : V × V × V × V × Unit → H → Rr) (x : V × V × V × V × Unit) h => rL59_2 C k (fun y0 y1 y5 y6 h => g (y0, y1, y5, y6, ()) h) x.1 x.2.1 x.2.2.1 x.2.2.2.1 h) (rn59_2 C k)
def rK59 (C : Nat → List V → H → Rr) (k : Nat) (x0 x1 : V) (h : H) : Rr := (rK (C 79 [x0, x1] h) fun v1 h2 => (rB (bin .eql v1 (.i .i64 (-1))) fun v3 => (rS v3 (some (x0, h2)) (rB (bin .add v1 (.i .i64 1)) fun v4 => (rW59_2 C k x0 x1 v1 v4 h2)))))
theorem rp59 (C : Nat → List V → H → Rr) (k : Nat) : dn C k c59 (rQ59 C k) = fun e h => (rK59 C k (e 0) (e 1) h) := by
  refine Eq.trans (rseq_eq (rseq_eq (rseq_eq (rseq_eq (rp59_1 C k) (rseq_eq (rblock_eq (rw59_2 C k)) rfl)) rfl) rfl) rfl) ?_
  kernel_rfl
def F59 : RF := fun C k a h => match a with
  | [a0, a1] => rK59 C k a0 a1 h
  | _ => none
theorem ro59 : RunOK IP 59 F59 := ⟨ir59, ip59, by kernel_rfl, fun C k a h r e => by
  unfold F59 at e
  split at e
  · exact ⟨by kernel_rfl, (congrFun (congrFun (rp59 C k) _) h).trans e⟩
  · cases e⟩
theorem ip61 : IP 61 = some ir61 := rfl
def rQ61 (C : Nat → List V → H → Rr) (k : Nat) : X → E → H → Rr := Qrr rs61
def rK61 (C : Nat → List V → H → Rr) (k : Nat) (x0 : V) (h : H) : Rr := (rB (vEqz false .s x0 V.nsl) fun v1 => (rS v1 (some (V.nsl, h)) (rB (vNewSl 0 [] [] h) fun r2 => (rB (vApp 5 40 r2.1 x0 r2.2) fun r3 => (some (r3.1, r3.2))))))
theorem rp61 (C : Nat → List V → H → Rr) (k : Nat) : dn C k c61 (rQ61 C k) = fun e h => (rK61 C k (e 0) h) := by kernel_rfl
def F61 : RF := fun C k a h => match a with
  | [a0] => rK61 C k a0 h
  | _ => none
theorem ro61 : RunOK IP 61 F61 := ⟨ir61, ip61, by kernel_rfl, fun C k a h r e => by
  unfold F61 at e
  split at e
  · exact ⟨by kernel_rfl, (congrFun (congrFun (rp61 C k) _) h).trans e⟩
  · cases e⟩
theorem ip62 : IP 62 = some ir62 := rfl
def rQ62 (C : Nat → List V → H → Rr) (k : Nat) : X → E → H → Rr := Qrr rs62
def rK62 (C : Nat → List V → H → Rr) (k : Nat) (x0 : V) (h : H) : Rr := (rB (vBox x0 h) fun r1 => (rB (some (.p (some (H.nx r1.2, 0)), H.new r1.2 ⟨false, [(.i .i64 0), (.i .i64 0), (.i .i64 0), (.i .i64 0), (.i .i64 0), (.i .u32 0), (.i .i64 0), (.b false), (.b false), (.i .i64 0), (.i .u32 0)]⟩)) fun r2 => (rB (vFa 1 r1.1) fun v3 => (rB (vLd1 r2.2 v3) fun v4 => (rB (vFa 2 r1.1) fun v5 => (rB (vLd1 r2.2 v5) fun v6 => (rB (vFa 3 r1.1) fun v7 => (rB (vLd1 r2.2 v7) fun v8 => (rB (vFa 4 r1.1) fun v9 => (rB (vLd1 r2.2 v9) fun v10 => (rB (vBld [(.i .i64 0), (.i .i64 0), (.i .i64 0), (.i .i64 0), (.i .i64 0), (.i .u32 0), (.i .i64 0), (.b false), (.b false), (.i .i64 0), (.i .u32 0)] [(0, 1, (.i .i64 10)), (1, 1, v4), (3, 1, v6), (4, 1, v8), (6, 1, v10)]) fun v11 => (rB (vStore r2.2 11 r2.1 v11) fun r12 => (rB (vLdA r12.2 11 r2.1) fun v13 => (some (v13, r12.2)))))))))))))))
theorem rp62 (C : Nat → List V → H → Rr) (k : Nat) : dn C k c62 (rQ62 C k) = fun e h => (rK62 C k (e 0) h) := by kernel_rfl
def F62 : RF := fun C k a h => match a with
  | [a0] => rK62 C k a0 h
  | _ => none
theorem ro62 : RunOK IP 62 F62 := ⟨ir62, ip62, by kernel_rfl, fun C k a h r e => by
  unfold F62 at e
  split at e
  · exact ⟨by kernel_rfl, (congrFun (congrFun (rp62 C k) _) h).trans e⟩
  · cases e⟩
theorem ip63 : IP 63 = some ir63 := rfl
def rQ63 (C : Nat → List V → H → Rr) (k : Nat) : X → E → H → Rr := Qrr rs63
def rK63 (C : Nat → List V → H → Rr) (k : Nat) (x0 x1 x2 : V) (h : H) : Rr := (rB (vBox x0 h) fun r1 => (rB (vBox x1 r1.2) fun r2 => (rB (some (.p (some (H.nx r2.2, 0)), H.new r2.2 ⟨false, [(.i .i64 0), (.i .i64 0), (.i .u64 0), (.i .u64 0), (.i .u64 0), (.i .u64 0), (.i .i64 0), (.b false), (.b false)]⟩)) fun r3 => (rB (vLdA r3.2 2 r1.1) fun v4 => (rB (vLdA r3.2 3 r2.1) fun v5 => (rB (vBld [(.i .i64 0), (.i .i64 0), (.i .u64 0), (.i .u64 0), (.i .u64 0), (.i .u64 0), (.i .i64 0), (.b false), (.b false)] [(0, 2, v4), (2, 3, v5), (5, 1, x2), (6, 1, (.i .i64 1)), (7, 1, (.b true))]) fun v6 => (rB (vStore r3.2 9 r3.1 v6) fun r7 => (rB (vLdA r7.2 9 r3.1) fun v8 => (some (v8, r7.2))))))))))
theorem rp63 (C : Nat → List V → H → Rr) (k : Nat) : dn C k c63 (rQ63 C k) = fun e h => (rK63 C k (e 0) (e 1) (e 2) h) := by kernel_rfl
def F63 : RF := fun C k a h => match a with
  | [a0, a1, a2] => rK63 C k a0 a1 a2 h
  | _ => none
theorem ro63 : RunOK IP 63 F63 := ⟨ir63, ip63, by kernel_rfl, fun C k a h r e => by
  unfold F63 at e
  split at e
  · exact ⟨by kernel_rfl, (congrFun (congrFun (rp63 C k) _) h).trans e⟩
  · cases e⟩
theorem ip64 : IP 64 = some ir64 := rfl
def rQ64 (C : Nat → List V → H → Rr) (k : Nat) : X → E → H → Rr := Qrr rs64
def rK64 (C : Nat → List V → H → Rr) (k : Nat) (x0 : V) (h : H) : Rr := (rB (vBox x0 h) fun r1 => (rB (some (.p (some (H.nx r1.2, 0)), H.new r1.2 ⟨false, [(.i .i64 0), (.i .i64 0), (.i .i64 0), (.i .i64 0), (.i .i64 0)]⟩)) fun r2 => (rB (vFa 0 r1.1) fun v3 => (rB (vLd1 r2.2 v3) fun v4 => (rB (bin .neq v4 (.i .i64 9)) fun v5 => (rS v5 (rB (vBld [(.i .i64 0), (.i .i64 0), (.i .i64 0), (.i .i64 0), (.i .i64 0)] []) fun v6 => (rB (vStore r2.2 5 r2.1 v6) fun r7 => (rB (vLdA r7.2 5 r2.1) fun v8 => (some ((.tup [v8, (.b false)]), r7.2))))) (rB (vLdA r2.2 11 r1.1) fun v9 => (rK (C 80 [v9] r2.2) fun v10 h11 => (rB (vFa 1 r1.1) fun v12 => (rB (vLd1 h11 v12) fun v13 => (rB (vFa 3 r1.1) fun v14 => (rB (vLd1 h11 v14) fun v15 => (rB (vFa 4 r1.1) fun v16 => (rB (vLd1 h11 v16) fun v17 => (rB (vFa 6 r1.1) fun v18 => (rB (vLd1 h11 v18) fun v19 => (rB (vBld [(.i .i64 0), (.i .i64 0), (.i .i64 0), (.i .i64 0), (.i .i64 0)] [(0, 1, v10), (1, 1, v13), (2, 1, v15), (3, 1, v17), (4, 1, v19)]) fun v20 => (rB (some (.p (some (H.nx h11, 0)), H.new h11 ⟨false, [(.i .i64 0), (.i .i64 0), (.i .i64 0), (.i .i64 0), (.i .i64 0)]⟩)) fun r21 => (rB (vStore r21.2 5 r21.1 v20) fun r22 => (rC (stdy false 1 v12 r2.2 h11) (rC (stdy false 1 v14 r2.2 h11) (rC (stdy false 1 v16 r2.2 h11) (rC (stdy false 1 v18 r2.2 h11) (rB (vLdA r22.2 5 r21.1) fun v23 => (rB (vLdA r22.2 5 r21.1) fun v24 => (rK (C 44 [v24] r22.2) fun v25 h26 => (rB (vStore h26 5 r2.1 v23) fun r27 => (rC (stdy true 5 r21.1 r22.2 h26) (rB (vLdA r27.2 5 r2.1) fun v28 => (some ((.tup [v28, v25]), r27.2)))))))))))))))))))))))))))))))
theorem rp64 (C : Nat → List V → H → Rr) (k : Nat) : dn C k c64 (rQ64 C k) = fun e h => (rK64 C k (e 0) h) := by kernel_rfl
def F64 : RF := fun C k a h => match a with
  | [a0] => rK64 C k a0 h
  | _ => none
theorem ro64 : RunOK IP 64 F64 := ⟨ir64, ip64, by kernel_rfl, fun C k a h r e => by
  unfold F64 at e
  split at e
  · exact ⟨by kernel_rfl, (congrFun (congrFun (rp64 C k) _) h).trans e⟩
  · cases e⟩
theorem ip65 : IP 65 = some ir65 := rfl
def rQ65 (C : Nat → List V → H → Rr) (k : Nat) : X → E → H → Rr := Qrr rs65
def rQ65_1 (C : Nat → List V → H → Rr) (k : Nat) : X → E → H → Rr := (rQ65 C k)
def rK65_1 (C : Nat → List V → H → Rr) (k : Nat) (x0 x3 : V) (h : H) : Rr := (rB (vLdA h 5 x3) fun v1 => (rK (C 81 [x0, v1] h) fun v2 h3 => (rB (vNilc x0) fun v4 => (rB (vFa 51 v4) fun v5 => (rB (vLd1 h3 v5) fun v6 => (rB (bin .geq v6 (.i .i64 256)) fun v7 => (rS v7 (some ((.b false), h3)) (rB (vNilc x0) fun v8 => (rB (vFa 51 v8) fun v9 => (rB (vLd1 h3 v9) fun v10 => (rB (bin .add v10 (.i .i64 1)) fun v11 => (rB (vNilc x0) fun v12 => (rB (vFa 51 v12) fun v13 => (rB (vStore h3 1 v13 v11) fun r14 => (rB (vNilc x0) fun v15 => (rB (vFa 52 v15) fun v16 => (rB (vLd1 r14.2 v16) fun v17 => (rB (bin .add v17 (.i .i64 1)) fun v18 => (rB (vNilc x0) fun v19 => (rB (vFa 52 v19) fun v20 => (rB (vStore r14.2 1 v20 v18) fun r21 => (rB (vLdA r21.2 5 x3) fun v22 => (rB (vNilc x0) fun v23 => (rB (vFa 52 v23) fun v24 => (rB (vLd1 r21.2 v24) fun v25 => (rB (vBld [(.i .i64 0), (.i .i64 0), (.i .i64 0), (.i .i64 0), (.i .i64 0), (.i .i64 0)] [(0, 5, v22), (5, 1, v25)]) fun v26 => (rK (C 82 [x0, v26] r21.2) fun v27 h28 => (some ((.b true), h28)))))))))))))))))))))))))))))
def rJ65_1 (C : Nat → List V → H → Rr) (k : Nat) : E → H → Rr := fun e h => (rK65_1 C k (e 0) (e 3) h)
theorem rp65_1 (C : Nat → List V → H → Rr) (k : Nat) : dn C k c65_1 (rQ65_1 C k) = (rJ65_1 C k) := by kernel_rfl
def rQ65_2 (C : Nat → List V → H → Rr) (k : Nat) : X → E → H → Rr := (Qxr (rJ65_1 C k) (rQ65 C k))
def rK65_2 (C : Nat → List V → H → Rr) (k : Nat) (x0 x3 x15 : V) (h : H) : Rr := (rS x15 (some ((.b false), h)) (rK65_1 C k x0 x3 h))
def rJ65_2 (C : Nat → List V → H → Rr) (k : Nat) : E → H → Rr := fun e h => (rK65_2 C k (e 0) (e 3) (e 15) h)
theorem rp65_2 (C : Nat → List V → H → Rr) (k : Nat) : dn C k c65_2 (rQ65_2 C k) = (rJ65_2 C k) := by kernel_rfl
def rS65_6 (C : Nat → List V → H → Rr) (k : Nat) : E → H → Rr := ((Qxr (rJ65_2 C k) (Qxr (rJ65_1 C k) (rQ65 C k))) X.normal)
def rK65_6 (C : Nat → List V → H → Rr) (k : Nat) (x0 x3 x11 x14 : V) (h : H) : Rr := (rB (vPick x11 (.b true) x14) fun v1 => (rK65_2 C k x0 x3 v1 h))
def rJ65_6 (C : Nat → List V → H → Rr) (k : Nat) : E → H → Rr := fun e h => (rK65_6 C k (e 0) (e 3) (e 11) (e 14) h)
theorem rp65_6 (C : Nat → List V → H → Rr) (k : Nat) : dnOps C o65_3 (rS65_6 C k) = (rJ65_6 C k) := by
  refine Eq.trans (rapp_eq rfl rfl) ?_
  kernel_rfl
def rK65 (C : Nat → List V → H → Rr) (k : Nat) (x0 x1 : V) (h : H) : Rr := (rB (vBox x1 h) fun r1 => (rB (vFa 0 r1.1) fun v2 => (rB (vLd1 r1.2 v2) fun v3 => (rK (C 69 [v3] r1.2) fun v4 h5 => (rB (vFa 0 r1.1) fun v6 => (rB (vStore h5 1 v6 v4) fun r7 => (rB (vEqz false .p x0 (.p none)) fun v8 => (rG v8 false (rB (vFa 0 r1.1) fun v9 => (rB (vLd1 r7.2 v9) fun v10 => (rB (bin .eql v10 (.i .i64 1099511627776)) fun v11 => (rK65_6 C k x0 r1.1 v8 v11 r7.2)))) (rK65_6 C k x0 r1.1 v8 undefV r7.2)))))))))
theorem rp65 (C : Nat → List V → H → Rr) (k : Nat) : dn C k c65 (rQ65 C k) = fun e h => (rK65 C k (e 0) (e 1) h) := by
  refine Eq.trans (rseq_eq (rseq_eq (rseq_eq (rp65_1 C k) (rseq_eq (rp65_2 C k) (rregion_eq (rapp_eq (rgrp_eq2 11 false rfl (rp65_6 C k) rfl) rfl)))) rfl) rfl) ?_
  kernel_rfl
def F65 : RF := fun C k a h => match a with
  | [a0, a1] => rK65 C k a0 a1 h
  | _ => none
theorem ro65 : RunOK IP 65 F65 := ⟨ir65, ip65, by kernel_rfl, fun C k a h r e => by
  unfold F65 at e
  split at e
  · exact ⟨by kernel_rfl, (congrFun (congrFun (rp65 C k) _) h).trans e⟩
  · cases e⟩
theorem ip69 : IP 69 = some ir69 := rfl
def Q69 [q : Hid (V → H → Prop)] : X → E → H → Prop := Qr rs69 q.un
def K69 (x0 : V) (h : H) [q : Hid (V → H → Prop)] : Prop := @Bnd V (foldO max2 x0 [(.i .i64 0)]) ⟨fun v1 => @Bnd V (foldO min2 v1 [(.i .i64 1099511627776)]) ⟨fun v2 => @Hid.un (V → H → Prop) q v2 h⟩⟩
theorem p69 [q : Hid (V → H → Prop)] : den IP c69 (@Q69 q) = fun e h => @K69 (e 0) h q := by kernel_rfl
theorem f69 (a0 : V) (h : H) (Q : V → H → Prop) : @wF IP 69 [a0] h ⟨Q⟩ ↔ @K69 a0 h ⟨Q⟩ := (Fnc_den (ip69) (by kernel_rfl) (by kernel_rfl) h Q).trans (iff_of_eq (congrFun (congrFun (@p69 ⟨Q⟩) _) h))
def rQ69 (C : Nat → List V → H → Rr) (k : Nat) : X → E → H → Rr := Qrr rs69
def rK69 (C : Nat → List V → H → Rr) (k : Nat) (x0 : V) (h : H) : Rr := (rB (foldO max2 x0 [(.i .i64 0)]) fun v1 => (rB (foldO min2 v1 [(.i .i64 1099511627776)]) fun v2 => (some (v2, h))))
theorem rp69 (C : Nat → List V → H → Rr) (k : Nat) : dn C k c69 (rQ69 C k) = fun e h => (rK69 C k (e 0) h) := by kernel_rfl
def F69 : RF := fun C k a h => match a with
  | [a0] => rK69 C k a0 h
  | _ => none
theorem ro69 : RunOK IP 69 F69 := ⟨ir69, ip69, by kernel_rfl, fun C k a h r e => by
  unfold F69 at e
  split at e
  · exact ⟨by kernel_rfl, (congrFun (congrFun (rp69 C k) _) h).trans e⟩
  · cases e⟩
theorem ip70 : IP 70 = some ir70 := rfl
def rQ70 (C : Nat → List V → H → Rr) (k : Nat) : X → E → H → Rr := Qrr rs70
def rQ70_1 (C : Nat → List V → H → Rr) (k : Nat) : X → E → H → Rr := (rQ70 C k)
def rQ70_2 (C : Nat → List V → H → Rr) (k : Nat) : X → E → H → Rr := (rQ70_1 C k)
def rK70_2 (C : Nat → List V → H → Rr) (k : Nat) (h : H) : Rr := (some ((.b true), h))
def rJ70_2 (C : Nat → List V → H → Rr) (k : Nat) : E → H → Rr := fun e h => (rK70_2 C k h)
theorem rp70_2 (C : Nat → List V → H → Rr) (k : Nat) : dn C k c70_2 (rQ70_2 C k) = (rJ70_2 C k) := by kernel_rfl
def rK70_1 (C : Nat → List V → H → Rr) (k : Nat) (x0 x1 : V) (h : H) : Rr := (rB (vNilc x0) fun v1 => (rB (vFa 1 v1) fun v2 => (rB (vLd1 h v2) fun v3 => (rK (C 85 [v3, x1] h) fun v4 h5 => (rB (un .not v4) fun v6 => (rS v6 (rB (vNilc x0) fun v7 => (rB (vFa 1 v7) fun v8 => (rB (vLd1 h5 v8) fun v9 => (rB (vNewSl 1 [(.i .i64 0)] [(0, 1, x1)] h5) fun r10 => (rB (vApp 1 8 v9 r10.1 r10.2) fun r11 => (rB (vNilc x0) fun v12 => (rB (vFa 1 v12) fun v13 => (rB (vStore r11.2 1 v13 r11.1) fun r14 => (rK70_2 C k r14.2))))))))) (rK70_2 C k h5)))))))
def rJ70_1 (C : Nat → List V → H → Rr) (k : Nat) : E → H → Rr := fun e h => (rK70_1 C k (e 0) (e 1) h)
theorem rp70_1 (C : Nat → List V → H → Rr) (k : Nat) : dn C k c70_1 (rQ70_1 C k) = (rJ70_1 C k) := by
  refine Eq.trans (rseq_eq (rp70_2 C k) rfl) ?_
  kernel_rfl
def rQ70_3 (C : Nat → List V → H → Rr) (k : Nat) : X → E → H → Rr := (Qxr (rJ70_1 C k) (rQ70 C k))
def rK70_3 (C : Nat → List V → H → Rr) (k : Nat) (x0 x1 x17 : V) (h : H) : Rr := (rS x17 (rB (vNilc x0) fun v1 => (rB (vFa 2 v1) fun v2 => (rB (vLd1 h v2) fun v3 => (rB (bin .add v3 (.i .i64 1)) fun v4 => (rB (vNilc x0) fun v5 => (rB (vFa 2 v5) fun v6 => (rB (vStore h 1 v6 v4) fun r7 => (some ((.b false), r7.2))))))))) (rK70_1 C k x0 x1 h))
def rJ70_3 (C : Nat → List V → H → Rr) (k : Nat) : E → H → Rr := fun e h => (rK70_3 C k (e 0) (e 1) (e 17) h)
theorem rp70_3 (C : Nat → List V → H → Rr) (k : Nat) : dn C k c70_3 (rQ70_3 C k) = (rJ70_3 C k) := by kernel_rfl
def rS70_7 (C : Nat → List V → H → Rr) (k : Nat) : E → H → Rr := ((Qxr (rJ70_3 C k) (Qxr (rJ70_1 C k) (rQ70 C k))) X.normal)
def rK70_7 (C : Nat → List V → H → Rr) (k : Nat) (x0 x1 x9 x16 : V) (h : H) : Rr := (rB (vPick x9 (.b true) x16) fun v1 => (rK70_3 C k x0 x1 v1 h))
def rJ70_7 (C : Nat → List V → H → Rr) (k : Nat) : E → H → Rr := fun e h => (rK70_7 C k (e 0) (e 1) (e 9) (e 16) h)
theorem rp70_7 (C : Nat → List V → H → Rr) (k : Nat) : dnOps C o70_4 (rS70_7 C k) = (rJ70_7 C k) := by
  refine Eq.trans (rapp_eq rfl rfl) ?_
  kernel_rfl
def rK70 (C : Nat → List V → H → Rr) (k : Nat) (x0 x1 : V) (h : H) : Rr := (rB (vEqz false .p x0 (.p none)) fun v1 => (rS v1 (some ((.b false), h)) (rB (bin .lss x1 (.i .i64 0)) fun v2 => (rG v2 false (rB (vNilc x0) fun v3 => (rB (vFa 0 v3) fun v4 => (rB (vLd1 h v4) fun v5 => (rB (vLens v5) fun v6 => (rB (bin .geq x1 v6) fun v7 => (rK70_7 C k x0 x1 v2 v7 h)))))) (rK70_7 C k x0 x1 v2 undefV h)))))
theorem rp70 (C : Nat → List V → H → Rr) (k : Nat) : dn C k c70 (rQ70 C k) = fun e h => (rK70 C k (e 0) (e 1) h) := by
  refine Eq.trans (rseq_eq (rseq_eq (rseq_eq (rp70_1 C k) (rseq_eq (rp70_3 C k) (rregion_eq (rapp_eq (rgrp_eq2 9 false rfl (rp70_7 C k) rfl) rfl)))) rfl) rfl) ?_
  kernel_rfl
def F70 : RF := fun C k a h => match a with
  | [a0, a1] => rK70 C k a0 a1 h
  | _ => none
theorem ro70 : RunOK IP 70 F70 := ⟨ir70, ip70, by kernel_rfl, fun C k a h r e => by
  unfold F70 at e
  split at e
  · exact ⟨by kernel_rfl, (congrFun (congrFun (rp70 C k) _) h).trans e⟩
  · cases e⟩
theorem ip71 : IP 71 = some ir71 := rfl
def rQ71 (C : Nat → List V → H → Rr) (k : Nat) : X → E → H → Rr := Qrr rs71
def rS71_4 (C : Nat → List V → H → Rr) (k : Nat) : E → H → Rr := ((Qxr (dn C k .ret (rQ71 C k)) (rQ71 C k)) X.normal)
def rK71_4 (C : Nat → List V → H → Rr) (k : Nat) (x7 x10 : V) (h : H) : Rr := (rB (vPick x7 x10 (.b false)) fun v1 => (some (v1, h)))
def rJ71_4 (C : Nat → List V → H → Rr) (k : Nat) : E → H → Rr := fun e h => (rK71_4 C k (e 7) (e 10) h)
theorem rp71_4 (C : Nat → List V → H → Rr) (k : Nat) : dnOps C o71_1 (rS71_4 C k) = (rJ71_4 C k) := by
  refine Eq.trans (rapp_eq rfl rfl) ?_
  kernel_rfl
def rK71 (C : Nat → List V → H → Rr) (k : Nat) (x0 x1 : V) (h : H) : Rr := (rB (bin .geq x0 (.i .i64 0)) fun v1 => (rG v1 true (rB (bin .leq x0 x1) fun v2 => (rK71_4 C k v1 v2 h)) (rK71_4 C k v1 undefV h)))
theorem rp71 (C : Nat → List V → H → Rr) (k : Nat) : dn C k c71 (rQ71 C k) = fun e h => (rK71 C k (e 0) (e 1) h) := by
  refine Eq.trans (rseq_eq (rseq_eq rfl (rregion_eq (rapp_eq (rgrp_eq2 7 true rfl (rp71_4 C k) rfl) rfl))) rfl) ?_
  kernel_rfl
def F71 : RF := fun C k a h => match a with
  | [a0, a1] => rK71 C k a0 a1 h
  | _ => none
theorem ro71 : RunOK IP 71 F71 := ⟨ir71, ip71, by kernel_rfl, fun C k a h r e => by
  unfold F71 at e
  split at e
  · exact ⟨by kernel_rfl, (congrFun (congrFun (rp71 C k) _) h).trans e⟩
  · cases e⟩
theorem ip72 : IP 72 = some ir72 := rfl
def rQ72 (C : Nat → List V → H → Rr) (k : Nat) : X → E → H → Rr := Qrr rs72
def rS72_8 (C : Nat → List V → H → Rr) (k : Nat) : E → H → Rr := ((Qxr (dn C k .ret (rQ72 C k)) (rQ72 C k)) X.normal)
def rK72_8 (C : Nat → List V → H → Rr) (k : Nat) (x16 x22 : V) (h : H) : Rr := (rB (vPick x16 x22 (.b false)) fun v1 => (some (v1, h)))
def rJ72_8 (C : Nat → List V → H → Rr) (k : Nat) : E → H → Rr := fun e h => (rK72_8 C k (e 16) (e 22) h)
theorem rp72_8 (C : Nat → List V → H → Rr) (k : Nat) : dnOps C o72_1 (rS72_8 C k) = (rJ72_8 C k) := by
  refine Eq.trans (rapp_eq rfl rfl) ?_
  kernel_rfl
def rS72_9 (C : Nat → List V → H → Rr) (k : Nat) : E → H → Rr := ((Qxr (dn C k .ret (rQ72 C k)) (rQ72 C k)) X.normal)
def rK72_9 (C : Nat → List V → H → Rr) (k : Nat) (x1 x11 x14 : V) (h : H) : Rr := (rB (vPick x11 x14 (.b false)) fun v1 => (rG v1 true (rB (vFa 1 x1) fun v2 => (rB (vLd1 h v2) fun v3 => (rB (vFa 0 x1) fun v4 => (rB (vLd1 h v4) fun v5 => (rB (bin .sub (.i .i64 64) v5) fun v6 => (rB (bin .leq v3 v6) fun v7 => (rK72_8 C k v1 v7 h))))))) (rK72_8 C k v1 undefV h)))
def rJ72_9 (C : Nat → List V → H → Rr) (k : Nat) : E → H → Rr := fun e h => (rK72_9 C k (e 1) (e 11) (e 14) h)
theorem rp72_9 (C : Nat → List V → H → Rr) (k : Nat) : dnOps C o72_3 (rS72_9 C k) = (rJ72_9 C k) := by
  refine Eq.trans (rapp_eq (rgrp_eq2 16 true rfl (rp72_8 C k) rfl) rfl) ?_
  kernel_rfl
def rS72_10 (C : Nat → List V → H → Rr) (k : Nat) : E → H → Rr := ((Qxr (dn C k .ret (rQ72 C k)) (rQ72 C k)) X.normal)
def rK72_10 (C : Nat → List V → H → Rr) (k : Nat) (x1 x6 x9 : V) (h : H) : Rr := (rB (vPick x6 x9 (.b false)) fun v1 => (rG v1 true (rB (vFa 0 x1) fun v2 => (rB (vLd1 h v2) fun v3 => (rB (bin .lss v3 (.i .i64 64)) fun v4 => (rK72_9 C k x1 v1 v4 h)))) (rK72_9 C k x1 v1 undefV h)))
def rJ72_10 (C : Nat → List V → H → Rr) (k : Nat) : E → H → Rr := fun e h => (rK72_10 C k (e 1) (e 6) (e 9) h)
theorem rp72_10 (C : Nat → List V → H → Rr) (k : Nat) : dnOps C o72_5 (rS72_10 C k) = (rJ72_10 C k) := by
  refine Eq.trans (rapp_eq (rgrp_eq2 11 true rfl (rp72_9 C k) rfl) rfl) ?_
  kernel_rfl
def rK72 (C : Nat → List V → H → Rr) (k : Nat) (x0 : V) (h : H) : Rr := (rB (vBox x0 h) fun r1 => (rB (vFa 0 r1.1) fun v2 => (rB (vLd1 r1.2 v2) fun v3 => (rB (bin .geq v3 (.i .i64 0)) fun v4 => (rG v4 true (rB (vFa 1 r1.1) fun v5 => (rB (vLd1 r1.2 v5) fun v6 => (rB (bin .geq v6 (.i .i64 1)) fun v7 => (rK72_10 C k r1.1 v4 v7 r1.2)))) (rK72_10 C k r1.1 v4 undefV r1.2))))))
theorem rp72 (C : Nat → List V → H → Rr) (k : Nat) : dn C k c72 (rQ72 C k) = fun e h => (rK72 C k (e 0) h) := by
  refine Eq.trans (rseq_eq (rseq_eq rfl (rregion_eq (rapp_eq (rgrp_eq2 6 true rfl (rp72_10 C k) rfl) rfl))) rfl) ?_
  kernel_rfl
def F72 : RF := fun C k a h => match a with
  | [a0] => rK72 C k a0 h
  | _ => none
theorem ro72 : RunOK IP 72 F72 := ⟨ir72, ip72, by kernel_rfl, fun C k a h r e => by
  unfold F72 at e
  split at e
  · exact ⟨by kernel_rfl, (congrFun (congrFun (rp72 C k) _) h).trans e⟩
  · cases e⟩
theorem ip73 : IP 73 = some ir73 := rfl
def rQ73 (C : Nat → List V → H → Rr) (k : Nat) : X → E → H → Rr := Qrr rs73
def rK73 (C : Nat → List V → H → Rr) (k : Nat) (x0 : V) (h : H) : Rr := (rB (vBox x0 h) fun r1 => (rB (vLdA r1.2 2 r1.1) fun v2 => (rK (C 72 [v2] r1.2) fun v3 h4 => (rB (un .not v3) fun v5 => (rS v5 (some ((.i .u64 0), h4)) (rB (vLdA h4 2 r1.1) fun v6 => (rK (C 74 [v6] h4) fun v7 h8 => (rB (vFa 0 r1.1) fun v9 => (rB (vLd1 h8 v9) fun v10 => (rB (bin .shl v7 v10) fun v11 => (rC (stdy false 1 v9 h4 h8) (some (v11, h8)))))))))))))
theorem rp73 (C : Nat → List V → H → Rr) (k : Nat) : dn C k c73 (rQ73 C k) = fun e h => (rK73 C k (e 0) h) := by kernel_rfl
def F73 : RF := fun C k a h => match a with
  | [a0] => rK73 C k a0 h
  | _ => none
theorem ro73 : RunOK IP 73 F73 := ⟨ir73, ip73, by kernel_rfl, fun C k a h r e => by
  unfold F73 at e
  split at e
  · exact ⟨by kernel_rfl, (congrFun (congrFun (rp73 C k) _) h).trans e⟩
  · cases e⟩
theorem ip74 : IP 74 = some ir74 := rfl
def rQ74 (C : Nat → List V → H → Rr) (k : Nat) : X → E → H → Rr := Qrr rs74
def rK74 (C : Nat → List V → H → Rr) (k : Nat) (x0 : V) (h : H) : Rr := (rB (vBox x0 h) fun r1 => (rB (vLdA r1.2 2 r1.1) fun v2 => (rK (C 72 [v2] r1.2) fun v3 h4 => (rB (un .not v3) fun v5 => (rS v5 (some ((.i .u64 0), h4)) (rB (vFa 1 r1.1) fun v6 => (rB (vLd1 h4 v6) fun v7 => (rB (bin .sub (.i .i64 64) v7) fun v8 => (rB (bin .shr (.i .u64 18446744073709551615) v8) fun v9 => (some (v9, h4)))))))))))
theorem rp74 (C : Nat → List V → H → Rr) (k : Nat) : dn C k c74 (rQ74 C k) = fun e h => (rK74 C k (e 0) h) := by kernel_rfl
def F74 : RF := fun C k a h => match a with
  | [a0] => rK74 C k a0 h
  | _ => none
theorem ro74 : RunOK IP 74 F74 := ⟨ir74, ip74, by kernel_rfl, fun C k a h r e => by
  unfold F74 at e
  split at e
  · exact ⟨by kernel_rfl, (congrFun (congrFun (rp74 C k) _) h).trans e⟩
  · cases e⟩
theorem ip76 : IP 76 = some ir76 := rfl
def rQ76 (C : Nat → List V → H → Rr) (k : Nat) : X → E → H → Rr := Qrr rs76
def rQ76_1 (C : Nat → List V → H → Rr) (k : Nat) : X → E → H → Rr := (rQ76 C k)
def rR76_2 (C : Nat → List V → H → Rr) (k : Nat) : X → E → H → Rr := (Qbr 0 (rQ76_1 C k))
def rQ76_2 (C : Nat → List V → H → Rr) (k : Nat) (g76_2 : V → V → H → Rr) : X → E → H → Rr := Qxr (fun e h => g76_2 (e 0) (e 2) h) (rR76_2 C k)
def rQ76_3 (C : Nat → List V → H → Rr) (k : Nat) (g76_2 : V → V → H → Rr) : X → E → H → Rr := (rQ76_2 C k g76_2)
def rK76_3 (C : Nat → List V → H → Rr) (k : Nat) (g76_2 : V → V → H → Rr) (x0 x2 : V) (h : H) : Rr := (rB (bin .sub x2 (.i .i64 1)) fun v1 => (g76_2 x0 v1 h))
def rJ76_3 (C : Nat → List V → H → Rr) (k : Nat) (g76_2 : V → V → H → Rr) : E → H → Rr := fun e h => (rK76_3 C k g76_2 (e 0) (e 2) h)
theorem rp76_3 (C : Nat → List V → H → Rr) (k : Nat) (g76_2 : V → V → H → Rr) : dn C k c76_3 (rQ76_3 C k g76_2) = (rJ76_3 C k g76_2) := by kernel_rfl
def rL76_2 (C : Nat → List V → H → Rr) (k : Nat) (g76_2 : V → V → H → Rr) (x0 x2 : V) (h : H) : Rr := (rB (bin .geq x2 (.i .i64 0)) fun v1 => (rS v1 (rB (vNilc x0) fun v2 => (rB (vFa 0 v2) fun v3 => (rB (vLd1 h v3) fun v4 => (rK (C 88 [x2] h) fun v5 h6 => (rB (bin .rem v4 v5) fun v7 => (rB (bin .eql v7 (.i .i64 0)) fun v8 => (rC (stdy false 1 v3 h h6) (rS v8 (rB (vNilc x0) fun v9 => (rB (vFa 0 v9) fun v10 => (rB (vLd1 h6 v10) fun v11 => (rK (C 88 [x2] h6) fun v12 h13 => (rK (C 89 [v11, v12, (.i .i64 16)] h13) fun v14 h15 => (rK (C 87 [x0, x2, v14] h15) fun v16 h17 => (rC (stdy false 1 v10 h6 h13) (rK76_3 C k g76_2 x0 x2 h17)))))))) (rK76_3 C k g76_2 x0 x2 h6))))))))) (some ((.tup []), h))))
theorem rp76_2 (C : Nat → List V → H → Rr) (k : Nat) (g76_2 : V → V → H → Rr) : dn C k c76_2 (rQ76_2 C k g76_2) = fun e h => (rL76_2 C k g76_2 (e 0) (e 2) h) := by
  refine Eq.trans (rseq_eq (rseq_eq (rp76_3 C k g76_2) rfl) rfl) ?_
  kernel_rfl
def rW76_2 (C : Nat → List V → H → Rr) (k : Nat) (x0 x2 : V) (h : H) : Rr := rFix k (fun (g : V × V × Unit → H → Rr) (x : V × V × Unit) h => rL76_2 C k (fun y0 y2 h => g (y0, y2, ()) h) x.1 x.2.1 h) (x0, x2, ()) h
theorem rn76_2 (C : Nat → List V → H → Rr) (k : Nat) : ∀ g : V × V × Unit → H → Rr, dn C k c76_2 (Qxr (fun e h => g ((fun e : E => ((e 0, e 2, ()) : V × V × Unit)) e) h) (rR76_2 C k)) = fun e h => (fun (g : V × V × Unit → H → Rr) (x : V × V × Unit) h => rL76_2 C k (fun y0 y2 h => g (y0, y2, ()) h) x.1 x.2.1 h) g ((fun e : E => ((e 0, e 2, ()) : V × V × Unit)) e) h := fun g => rp76_2 C k (fun y0 y2 h => g (y0, y2, ()) h)
theorem rw76_2 (C : Nat → List V → H → Rr) (k : Nat) : dn C k (.loop c76_2) (rR76_2 C k) = fun e h => (rW76_2 C k (e 0) (e 2) h) := rloop_eq (fun e : E => ((e 0, e 2, ()) : V × V × Unit)) (fun (g : V × V × Unit → H → Rr) (x : V × V × Unit) h => rL76_2 C k (fun y0 y2 h => g (y0, y2, ()) h) x.1 x.2.1 h) (rn76_2 C k)
def rK76_1 (C : Nat → List V → H → Rr) (k : Nat) (x0 : V) (h : H) : Rr := (rW76_2 C k x0 (.i .i64 2) h)
def rJ76_1 (C : Nat → List V → H → Rr) (k : Nat) : E → H → Rr := fun e h => (rK76_1 C k (e 0) h)
theorem rp76_1 (C : Nat → List V → H → Rr) (k : Nat) : dn C k c76_1 (rQ76_1 C k) = (rJ76_1 C k) := by
  refine Eq.trans (rseq_eq (rblock_eq (rw76_2 C k)) rfl) ?_
  kernel_rfl
def rK76 (C : Nat → List V → H → Rr) (k : Nat) (x0 : V) (h : H) : Rr := (rB (vNilc x0) fun v1 => (rB (vFa 0 v1) fun v2 => (rB (vLd1 h v2) fun v3 => (rB (bin .add v3 (.i .i64 1)) fun v4 => (rB (vNilc x0) fun v5 => (rB (vFa 0 v5) fun v6 => (rB (vStore h 1 v6 v4) fun r7 => (rB (vNilc x0) fun v8 => (rB (vFa 49 v8) fun v9 => (rB (vLd1 r7.2 v9) fun v10 => (rB (vLens v10) fun v11 => (rB (bin .gtr v11 (.i .i64 0)) fun v12 => (rS v12 (rK (C 86 [x0] r7.2) fun v13 h14 => (rK76_1 C k x0 h14)) (rK76_1 C k x0 r7.2))))))))))))))
theorem rp76 (C : Nat → List V → H → Rr) (k : Nat) : dn C k c76 (rQ76 C k) = fun e h => (rK76 C k (e 0) h) := by
  refine Eq.trans (rseq_eq (rseq_eq (rp76_1 C k) rfl) rfl) ?_
  kernel_rfl
def F76 : RF := fun C k a h => match a with
  | [a0] => rK76 C k a0 h
  | _ => none
theorem ro76 : RunOK IP 76 F76 := ⟨ir76, ip76, by kernel_rfl, fun C k a h r e => by
  unfold F76 at e
  split at e
  · exact ⟨by kernel_rfl, (congrFun (congrFun (rp76 C k) _) h).trans e⟩
  · cases e⟩
theorem ip77 : IP 77 = some ir77 := rfl
def rQ77 (C : Nat → List V → H → Rr) (k : Nat) : X → E → H → Rr := Qrr rs77
def rK77 (C : Nat → List V → H → Rr) (k : Nat) (x0 : V) (h : H) : Rr := (rB (vEqz false .p x0 (.p none)) fun v1 => (rS v1 (some ((.i .i64 0), h)) (rB (vNilc x0) fun v2 => (rB (vFa 50 v2) fun v3 => (rB (vLd1 h v3) fun v4 => (rB (vLens v4) fun v5 => (some (v5, h))))))))
theorem rp77 (C : Nat → List V → H → Rr) (k : Nat) : dn C k c77 (rQ77 C k) = fun e h => (rK77 C k (e 0) h) := by kernel_rfl
def F77 : RF := fun C k a h => match a with
  | [a0] => rK77 C k a0 h
  | _ => none
theorem ro77 : RunOK IP 77 F77 := ⟨ir77, ip77, by kernel_rfl, fun C k a h r e => by
  unfold F77 at e
  split at e
  · exact ⟨by kernel_rfl, (congrFun (congrFun (rp77 C k) _) h).trans e⟩
  · cases e⟩
theorem ip78 : IP 78 = some ir78 := rfl
def rQ78 (C : Nat → List V → H → Rr) (k : Nat) : X → E → H → Rr := Qrr rs78
def rS78_6 (C : Nat → List V → H → Rr) (k : Nat) : E → H → Rr := ((Qxr (dn C k .ret (rQ78 C k)) (rQ78 C k)) X.normal)
def rK78_6 (C : Nat → List V → H → Rr) (k : Nat) (x12 x26 : V) (h : H) : Rr := (rB (vPick x12 (.b true) x26) fun v1 => (some (v1, h)))
def rJ78_6 (C : Nat → List V → H → Rr) (k : Nat) : E → H → Rr := fun e h => (rK78_6 C k (e 12) (e 26) h)
theorem rp78_6 (C : Nat → List V → H → Rr) (k : Nat) : dnOps C o78_1 (rS78_6 C k) = (rJ78_6 C k) := by
  refine Eq.trans (rapp_eq rfl rfl) ?_
  kernel_rfl
def rS78_7 (C : Nat → List V → H → Rr) (k : Nat) : E → H → Rr := ((Qxr (dn C k .ret (rQ78 C k)) (rQ78 C k)) X.normal)
def rK78_7 (C : Nat → List V → H → Rr) (k : Nat) (x12 x20 x25 : V) (h : H) : Rr := (rG x12 false (rB (vPick x20 x25 (.b false)) fun v1 => (rK78_6 C k x12 v1 h)) (rK78_6 C k x12 undefV h))
def rJ78_7 (C : Nat → List V → H → Rr) (k : Nat) : E → H → Rr := fun e h => (rK78_7 C k (e 12) (e 20) (e 25) h)
theorem rp78_7 (C : Nat → List V → H → Rr) (k : Nat) : dnOps C o78_2 (rS78_7 C k) = (rJ78_7 C k) := by
  refine Eq.trans (rgrp_eq2 12 false rfl (rp78_6 C k) rfl) ?_
  kernel_rfl
def rS78_8 (C : Nat → List V → H → Rr) (k : Nat) : E → H → Rr := ((Qxr (dn C k .ret (rQ78 C k)) (rQ78 C k)) X.normal)
def rK78_8 (C : Nat → List V → H → Rr) (k : Nat) (x2 x3 x12 x20 : V) (h : H) : Rr := (rG x20 true (rB (vFa 5 x2) fun v1 => (rB (vLd1 h v1) fun v2 => (rB (vFa 5 x3) fun v3 => (rB (vLd1 h v3) fun v4 => (rB (bin .lss v2 v4) fun v5 => (rK78_7 C k x12 x20 v5 h)))))) (rK78_7 C k x12 x20 undefV h))
def rJ78_8 (C : Nat → List V → H → Rr) (k : Nat) : E → H → Rr := fun e h => (rK78_8 C k (e 2) (e 3) (e 12) (e 20) h)
theorem rp78_8 (C : Nat → List V → H → Rr) (k : Nat) : dnOps C o78_3 (rS78_8 C k) = (rJ78_8 C k) := by
  refine Eq.trans (rgrp_eq2 20 true rfl (rp78_7 C k) rfl) ?_
  kernel_rfl
def rK78 (C : Nat → List V → H → Rr) (k : Nat) (x0 x1 : V) (h : H) : Rr := (rB (vBox x0 h) fun r1 => (rB (vBox x1 r1.2) fun r2 => (rB (vFa 0 r1.1) fun v3 => (rB (vFa 0 v3) fun v4 => (rB (vLd1 r2.2 v4) fun v5 => (rB (vFa 0 r2.1) fun v6 => (rB (vFa 0 v6) fun v7 => (rB (vLd1 r2.2 v7) fun v8 => (rB (bin .lss v5 v8) fun v9 => (rG v9 false (rB (vFa 0 r1.1) fun v10 => (rB (vFa 0 v10) fun v11 => (rB (vLd1 r2.2 v11) fun v12 => (rB (vFa 0 r2.1) fun v13 => (rB (vFa 0 v13) fun v14 => (rB (vLd1 r2.2 v14) fun v15 => (rB (bin .eql v12 v15) fun v16 => (rK78_8 C k r1.1 r2.1 v9 v16 r2.2)))))))) (rK78_8 C k r1.1 r2.1 v9 undefV r2.2)))))))))))
theorem rp78 (C : Nat → List V → H → Rr) (k : Nat) : dn C k c78 (rQ78 C k) = fun e h => (rK78 C k (e 0) (e 1) h) := by
  refine Eq.trans (rseq_eq (rseq_eq rfl (rregion_eq (rapp_eq (rgrp_eq2 12 false rfl (rp78_8 C k) rfl) rfl))) rfl) ?_
  kernel_rfl
def F78 : RF := fun C k a h => match a with
  | [a0, a1] => rK78 C k a0 a1 h
  | _ => none
theorem ro78 : RunOK IP 78 F78 := ⟨ir78, ip78, by kernel_rfl, fun C k a h r e => by
  unfold F78 at e
  split at e
  · exact ⟨by kernel_rfl, (congrFun (congrFun (rp78 C k) _) h).trans e⟩
  · cases e⟩
theorem ip79 : IP 79 = some ir79 := rfl
def rQ79 (C : Nat → List V → H → Rr) (k : Nat) : X → E → H → Rr := Qrr rs79
def rQ79_1 (C : Nat → List V → H → Rr) (k : Nat) : X → E → H → Rr := (rQ79 C k)
def rK79_1 (C : Nat → List V → H → Rr) (k : Nat) (h : H) : Rr := (some ((.i .i64 (-1)), h))
def rJ79_1 (C : Nat → List V → H → Rr) (k : Nat) : E → H → Rr := fun e h => (rK79_1 C k h)
theorem rp79_1 (C : Nat → List V → H → Rr) (k : Nat) : dn C k c79_1 (rQ79_1 C k) = (rJ79_1 C k) := by kernel_rfl
def rR79_2 (C : Nat → List V → H → Rr) (k : Nat) : X → E → H → Rr := (Qbr 0 (Qxr (rJ79_1 C k) (rQ79 C k)))
def rQ79_2 (C : Nat → List V → H → Rr) (k : Nat) (g79_2 : V → V → V → V → H → Rr) : X → E → H → Rr := Qxr (fun e h => g79_2 (e 0) (e 1) (e 7) (e 8) h) (rR79_2 C k)
def rL79_2 (C : Nat → List V → H → Rr) (k : Nat) (g79_2 : V → V → V → V → H → Rr) (x0 x1 x7 x8 : V) (h : H) : Rr := (rB (bin .lss x8 x7) fun v1 => (rS v1 (rB (vIa 5 x0 x8) fun v2 => (rB (vLdA h 5 v2) fun v3 => (rK (rV C x1 [v3] h) fun v4 h5 => (rS v4 (some (x8, h5)) (rB (bin .add x8 (.i .i64 1)) fun v6 => (g79_2 x0 x1 x7 v6 h5)))))) (rK79_1 C k h)))
theorem rp79_2 (C : Nat → List V → H → Rr) (k : Nat) (g79_2 : V → V → V → V → H → Rr) : dn C k c79_2 (rQ79_2 C k g79_2) = fun e h => (rL79_2 C k g79_2 (e 0) (e 1) (e 7) (e 8) h) := by kernel_rfl
def rW79_2 (C : Nat → List V → H → Rr) (k : Nat) (x0 x1 x7 x8 : V) (h : H) : Rr := rFix k (fun (g : V × V × V × V × Unit → H → Rr) (x : V × V × V × V × Unit) h => rL79_2 C k (fun y0 y1 y7 y8 h => g (y0, y1, y7, y8, ()) h) x.1 x.2.1 x.2.2.1 x.2.2.2.1 h) (x0, x1, x7, x8, ()) h
theorem rn79_2 (C : Nat → List V → H → Rr) (k : Nat) : ∀ g : V × V × V × V × Unit → H → Rr, dn C k c79_2 (Qxr (fun e h => g ((fun e : E => ((e 0, e 1, e 7, e 8, ()) : V × V × V × V × Unit)) e) h) (rR79_2 C k)) = fun e h => (fun (g : V × V × V × V × Unit → H → Rr) (x : V × V × V × V × Unit) h => rL79_2 C k (fun y0 y1 y7 y8 h => g (y0, y1, y7, y8, ()) h) x.1 x.2.1 x.2.2.1 x.2.2.2.1 h) g ((fun e : E => ((e 0, e 1, e 7, e 8, ()) : V × V × V × V × Unit)) e) h := fun g => rp79_2 C k (fun y0 y1 y7 y8 h => g (y0, y1, y7, y8, ()) h)
theorem rw79_2 (C : Nat → List V → H → Rr) (k : Nat) : dn C k (.loop c79_2) (rR79_2 C k) = fun e h => (rW79_2 C k (e 0) (e 1) (e 7) (e 8) h) := rloop_eq (fun e : E => ((e 0, e 1, e 7, e 8, ()) : V × V × V × V × Unit)) (fun (g : V × V × V × V × Unit → H → Rr) (x : V × V × V × V × Unit) h => rL79_2 C k (fun y0 y1 y7 y8 h => g (y0, y1, y7, y8, ()) h) x.1 x.2.1 x.2.2.1 x.2.2.2.1 h) (rn79_2 C k)
def rK79 (C : Nat → List V → H → Rr) (k : Nat) (x0 x1 : V) (h : H) : Rr := (rB (vLens x0) fun v1 => (rW79_2 C k x0 x1 v1 (.i .i64 0) h))
theorem rp79 (C : Nat → List V → H → Rr) (k : Nat) : dn C k c79 (rQ79 C k) = fun e h => (rK79 C k (e 0) (e 1) h) := by
  refine Eq.trans (rseq_eq (rseq_eq (rp79_1 C k) (rseq_eq (rblock_eq (rw79_2 C k)) rfl)) rfl) ?_
  kernel_rfl
def F79 : RF := fun C k a h => match a with
  | [a0, a1] => rK79 C k a0 a1 h
  | _ => none
theorem ro79 : RunOK IP 79 F79 := ⟨ir79, ip79, by kernel_rfl, fun C k a h r e => by
  unfold F79 at e
  split at e
  · exact ⟨by kernel_rfl, (congrFun (congrFun (rp79 C k) _) h).trans e⟩
  · cases e⟩
theorem ip80 : IP 80 = some ir80 := rfl
def rQ80 (C : Nat → List V → H → Rr) (k : Nat) : X → E → H → Rr := Qrr rs80
def rK80 (C : Nat → List V → H → Rr) (k : Nat) (x0 : V) (h : H) : Rr := (rB (vBox x0 h) fun r1 => (rB (vFa 10 r1.1) fun v2 => (rB (vLd1 r1.2 v2) fun v3 => (rB (vCvi .i64 v3) fun v4 => (rB (vFa 9 r1.1) fun v5 => (rB (vLd1 r1.2 v5) fun v6 => (rB (bin .and v6 (.i .i64 255)) fun v7 => (rB (bin .shl v7 (.i .u64 32)) fun v8 => (rB (bin .or v4 v8) fun v9 => (rB (foldO min2 v9 [(.i .i64 1099511627776)]) fun v10 => (some (v10, r1.2))))))))))))
theorem rp80 (C : Nat → List V → H → Rr) (k : Nat) : dn C k c80 (rQ80 C k) = fun e h => (rK80 C k (e 0) h) := by kernel_rfl
def F80 : RF := fun C k a h => match a with
  | [a0] => rK80 C k a0 h
  | _ => none
theorem ro80 : RunOK IP 80 F80 := ⟨ir80, ip80, by kernel_rfl, fun C k a h r e => by
  unfold F80 at e
  split at e
  · exact ⟨by kernel_rfl, (congrFun (congrFun (rp80 C k) _) h).trans e⟩
  · cases e⟩
theorem ip81 : IP 81 = some ir81 := rfl
def rQ81 (C : Nat → List V → H → Rr) (k : Nat) : X → E → H → Rr := Qrr rs81
def rR81_1 (C : Nat → List V → H → Rr) (k : Nat) : X → E → H → Rr := (Qbr 0 (rQ81 C k))
def rQ81_1 (C : Nat → List V → H → Rr) (k : Nat) (g81_1 : V → V → V → H → Rr) : X → E → H → Rr := Qxr (fun e h => g81_1 (e 0) (e 3) (e 26) h) (rR81_1 C k)
def rQ81_2 (C : Nat → List V → H → Rr) (k : Nat) (g81_1 : V → V → V → H → Rr) : X → E → H → Rr := (rQ81_1 C k g81_1)
def rK81_2 (C : Nat → List V → H → Rr) (k : Nat) (g81_1 : V → V → V → H → Rr) (x0 x3 x26 : V) (h : H) : Rr := (rB (bin .add x26 (.i .i64 1)) fun v1 => (g81_1 x0 x3 v1 h))
def rJ81_2 (C : Nat → List V → H → Rr) (k : Nat) (g81_1 : V → V → V → H → Rr) : E → H → Rr := fun e h => (rK81_2 C k g81_1 (e 0) (e 3) (e 26) h)
theorem rp81_2 (C : Nat → List V → H → Rr) (k : Nat) (g81_1 : V → V → V → H → Rr) : dn C k c81_2 (rQ81_2 C k g81_1) = (rJ81_2 C k g81_1) := by kernel_rfl
def rR81_3 (C : Nat → List V → H → Rr) (k : Nat) (g81_1 : V → V → V → H → Rr) : X → E → H → Rr := (Qbr 2 (Qbr 1 (Qxr (rJ81_2 C k g81_1) (rQ81_1 C k g81_1))))
def rQ81_3 (C : Nat → List V → H → Rr) (k : Nat) (g81_1 : V → V → V → H → Rr) (g81_3 : V → V → V → V → V → H → Rr) : X → E → H → Rr := Qxr (fun e h => g81_3 (e 0) (e 3) (e 4) (e 26) (e 29) h) (rR81_3 C k g81_1)
def rL81_3 (C : Nat → List V → H → Rr) (k : Nat) (g81_1 : V → V → V → H → Rr) (g81_3 : V → V → V → V → V → H → Rr) (x0 x3 x4 x26 x29 : V) (h : H) : Rr := (rB (bin .lss x29 (.i .i64 16)) fun v1 => (rS v1 (rB (vNilc x0) fun v2 => (rB (vFa 1 v2) fun v3 => (rB (vIaa 16 3 v3 x4) fun v4 => (rB (vIaa 1 16 v4 x29) fun v5 => (rB (vLd1 h v5) fun v6 => (rB (vLdA h 5 x3) fun v7 => (rK (C 90 [x0, v6, v7] h) fun v8 h9 => (rB (vNilc x0) fun v10 => (rB (vFa 1 v10) fun v11 => (rB (vIaa 16 3 v11 x4) fun v12 => (rB (vIaa 1 16 v12 x29) fun v13 => (rB (vStore h9 1 v13 v8) fun r14 => (rB (bin .add x29 (.i .i64 1)) fun v15 => (g81_3 x0 x3 x4 x26 v15 r14.2)))))))))))))) (rK81_2 C k g81_1 x0 x3 x26 h)))
theorem rp81_3 (C : Nat → List V → H → Rr) (k : Nat) (g81_1 : V → V → V → H → Rr) (g81_3 : V → V → V → V → V → H → Rr) : dn C k c81_3 (rQ81_3 C k g81_1 g81_3) = fun e h => (rL81_3 C k g81_1 g81_3 (e 0) (e 3) (e 4) (e 26) (e 29) h) := by kernel_rfl
def rW81_3 (C : Nat → List V → H → Rr) (k : Nat) (g81_1 : V → V → V → H → Rr) (x0 x3 x4 x26 x29 : V) (h : H) : Rr := rFix k (fun (g : V × V × V × V × V × Unit → H → Rr) (x : V × V × V × V × V × Unit) h => rL81_3 C k g81_1 (fun y0 y3 y4 y26 y29 h => g (y0, y3, y4, y26, y29, ()) h) x.1 x.2.1 x.2.2.1 x.2.2.2.1 x.2.2.2.2.1 h) (x0, x3, x4, x26, x29, ()) h
theorem rn81_3 (C : Nat → List V → H → Rr) (k : Nat) (g81_1 : V → V → V → H → Rr) : ∀ g : V × V × V × V × V × Unit → H → Rr, dn C k c81_3 (Qxr (fun e h => g ((fun e : E => ((e 0, e 3, e 4, e 26, e 29, ()) : V × V × V × V × V × Unit)) e) h) (rR81_3 C k g81_1)) = fun e h => (fun (g : V × V × V × V × V × Unit → H → Rr) (x : V × V × V × V × V × Unit) h => rL81_3 C k g81_1 (fun y0 y3 y4 y26 y29 h => g (y0, y3, y4, y26, y29, ()) h) x.1 x.2.1 x.2.2.1 x.2.2.2.1 x.2.2.2.2.1 h) g ((fun e : E => ((e 0, e 3, e 4, e 26, e 29, ()) : V × V × V × V × V × Unit)) e) h := fun g => rp81_3 C k g81_1 (fun y0 y3 y4 y26 y29 h => g (y0, y3, y4, y26, y29, ()) h)
theorem rw81_3 (C : Nat → List V → H → Rr) (k : Nat) (g81_1 : V → V → V → H → Rr) : dn C k (.loop c81_3) (rR81_3 C k g81_1) = fun e h => (rW81_3 C k g81_1 (e 0) (e 3) (e 4) (e 26) (e 29) h) := rloop_eq (fun e : E => ((e 0, e 3, e 4, e 26, e 29, ()) : V × V × V × V × V × Unit)) (fun (g : V × V × V × V × V × Unit → H → Rr) (x : V × V × V × V × V × Unit) h => rL81_3 C k g81_1 (fun y0 y3 y4 y26 y29 h => g (y0, y3, y4, y26, y29, ()) h) x.1 x.2.1 x.2.2.1 x.2.2.2.1 x.2.2.2.2.1 h) (rn81_3 C k g81_1)
def rL81_1 (C : Nat → List V → H → Rr) (k : Nat) (g81_1 : V → V → V → H → Rr) (x0 x3 x26 : V) (h : H) : Rr := (rB (bin .lss x26 (.i .i64 3)) fun v1 => (rS v1 (rW81_3 C k g81_1 x0 x3 x26 x26 (.i .i64 0) h) (some ((.tup []), h))))
theorem rp81_1 (C : Nat → List V → H → Rr) (k : Nat) (g81_1 : V → V → V → H → Rr) : dn C k c81_1 (rQ81_1 C k g81_1) = fun e h => (rL81_1 C k g81_1 (e 0) (e 3) (e 26) h) := by
  refine Eq.trans (rseq_eq (rseq_eq (rseq_eq (rp81_2 C k g81_1) (rblock_eq (rseq_eq (rseq_eq (rblock_eq (rw81_3 C k g81_1)) rfl) rfl))) rfl) rfl) ?_
  kernel_rfl
def rW81_1 (C : Nat → List V → H → Rr) (k : Nat) (x0 x3 x26 : V) (h : H) : Rr := rFix k (fun (g : V × V × V × Unit → H → Rr) (x : V × V × V × Unit) h => rL81_1 C k (fun y0 y3 y26 h => g (y0, y3, y26, ()) h) x.1 x.2.1 x.2.2.1 h) (x0, x3, x26, ()) h
theorem rn81_1 (C : Nat → List V → H → Rr) (k : Nat) : ∀ g : V × V × V × Unit → H → Rr, dn C k c81_1 (Qxr (fun e h => g ((fun e : E => ((e 0, e 3, e 26, ()) : V × V × V × Unit)) e) h) (rR81_1 C k)) = fun e h => (fun (g : V × V × V × Unit → H → Rr) (x : V × V × V × Unit) h => rL81_1 C k (fun y0 y3 y26 h => g (y0, y3, y26, ()) h) x.1 x.2.1 x.2.2.1 h) g ((fun e : E => ((e 0, e 3, e 26, ()) : V × V × V × Unit)) e) h := fun g => rp81_1 C k (fun y0 y3 y26 h => g (y0, y3, y26, ()) h)
theorem rw81_1 (C : Nat → List V → H → Rr) (k : Nat) : dn C k (.loop c81_1) (rR81_1 C k) = fun e h => (rW81_1 C k (e 0) (e 3) (e 26) h) := rloop_eq (fun e : E => ((e 0, e 3, e 26, ()) : V × V × V × Unit)) (fun (g : V × V × V × Unit → H → Rr) (x : V × V × V × Unit) h => rL81_1 C k (fun y0 y3 y26 h => g (y0, y3, y26, ()) h) x.1 x.2.1 x.2.2.1 h) (rn81_1 C k)
def rK81 (C : Nat → List V → H → Rr) (k : Nat) (x0 x1 : V) (h : H) : Rr := (rB (vBox x1 h) fun r1 => (rB (vNilc x0) fun v2 => (rB (vFa 50 v2) fun v3 => (rB (vLd1 r1.2 v3) fun v4 => (rB (vLdA r1.2 5 r1.1) fun v5 => (rK (C 90 [x0, v4, v5] r1.2) fun v6 h7 => (rB (vNilc x0) fun v8 => (rB (vFa 50 v8) fun v9 => (rB (vStore h7 1 v9 v6) fun r10 => (rB (vNilc x0) fun v11 => (rB (vFa 49 v11) fun v12 => (rB (vLd1 r10.2 v12) fun v13 => (rB (vLdA r10.2 5 r1.1) fun v14 => (rK (C 90 [x0, v13, v14] r10.2) fun v15 h16 => (rB (vNilc x0) fun v17 => (rB (vFa 49 v17) fun v18 => (rB (vStore h16 1 v18 v15) fun r19 => (rW81_1 C k x0 r1.1 (.i .i64 0) r19.2))))))))))))))))))
theorem rp81 (C : Nat → List V → H → Rr) (k : Nat) : dn C k c81 (rQ81 C k) = fun e h => (rK81 C k (e 0) (e 1) h) := by
  refine Eq.trans (rseq_eq (rseq_eq (rseq_eq (rseq_eq (rblock_eq (rw81_1 C k)) rfl) rfl) rfl) rfl) ?_
  kernel_rfl
def F81 : RF := fun C k a h => match a with
  | [a0, a1] => rK81 C k a0 a1 h
  | _ => none
theorem ro81 : RunOK IP 81 F81 := ⟨ir81, ip81, by kernel_rfl, fun C k a h r e => by
  unfold F81 at e
  split at e
  · exact ⟨by kernel_rfl, (congrFun (congrFun (rp81 C k) _) h).trans e⟩
  · cases e⟩
theorem ip82 : IP 82 = some ir82 := rfl
def rQ82 (C : Nat → List V → H → Rr) (k : Nat) : X → E → H → Rr := Qrr rs82
def rK82 (C : Nat → List V → H → Rr) (k : Nat) (x0 x1 : V) (h : H) : Rr := (rB (vBox x1 h) fun r1 => (rB (vFa 0 r1.1) fun v2 => (rB (vFa 0 v2) fun v3 => (rB (vLd1 r1.2 v3) fun v4 => (rB (vNilc x0) fun v5 => (rB (vFa 0 v5) fun v6 => (rB (vLd1 r1.2 v6) fun v7 => (rB (bin .leq v4 v7) fun v8 => (rS v8 (rB (vNilc x0) fun v9 => (rB (vFa 50 v9) fun v10 => (rB (vLd1 r1.2 v10) fun v11 => (rB (vLdA r1.2 6 r1.1) fun v12 => (rB (vNewSl 1 [(.i .i64 0), (.i .i64 0), (.i .i64 0), (.i .i64 0), (.i .i64 0), (.i .i64 0)] [(0, 6, v12)] r1.2) fun r13 => (rB (vApp 6 48 v11 r13.1 r13.2) fun r14 => (rB (vNilc x0) fun v15 => (rB (vFa 50 v15) fun v16 => (rB (vStore r14.2 1 v16 r14.1) fun r17 => (some ((.tup []), r17.2))))))))))) (rB (vFa 0 r1.1) fun v18 => (rB (vFa 0 v18) fun v19 => (rB (vLd1 r1.2 v19) fun v20 => (rB (vNilc x0) fun v21 => (rB (vFa 0 v21) fun v22 => (rB (vLd1 r1.2 v22) fun v23 => (rB (bin .sub v20 v23) fun v24 => (rK (C 91 [v24] r1.2) fun v25 h26 => (rB (bin .eql v25 (.i .i64 3)) fun v27 => (rS v27 (rB (vNilc x0) fun v28 => (rB (vFa 49 v28) fun v29 => (rB (vLd1 h26 v29) fun v30 => (rB (vLdA h26 6 r1.1) fun v31 => (rB (vNewSl 1 [(.i .i64 0), (.i .i64 0), (.i .i64 0), (.i .i64 0), (.i .i64 0), (.i .i64 0)] [(0, 6, v31)] h26) fun r32 => (rB (vApp 6 48 v30 r32.1 r32.2) fun r33 => (rB (vNilc x0) fun v34 => (rB (vFa 49 v34) fun v35 => (rB (vStore r33.2 1 v35 r33.1) fun r36 => (some ((.tup []), r36.2))))))))))) (rB (vFa 0 r1.1) fun v37 => (rB (vFa 0 v37) fun v38 => (rB (vLd1 h26 v38) fun v39 => (rK (C 88 [v25] h26) fun v40 h41 => (rK (C 89 [v39, v40, (.i .i64 16)] h41) fun v42 h43 => (rC (stdy false 1 v38 h26 h41) (rB (vNilc x0) fun v44 => (rB (vFa 1 v44) fun v45 => (rB (vIaa 16 3 v45 v25) fun v46 => (rB (vIaa 1 16 v46 v42) fun v47 => (rB (vLd1 h43 v47) fun v48 => (rB (vLdA h43 6 r1.1) fun v49 => (rB (vNewSl 1 [(.i .i64 0), (.i .i64 0), (.i .i64 0), (.i .i64 0), (.i .i64 0), (.i .i64 0)] [(0, 6, v49)] h43) fun r50 => (rB (vApp 6 48 v48 r50.1 r50.2) fun r51 => (rB (vNilc x0) fun v52 => (rB (vFa 1 v52) fun v53 => (rB (vIaa 16 3 v53 v25) fun v54 => (rB (vIaa 1 16 v54 v42) fun v55 => (rB (vStore r51.2 1 v55 r51.1) fun r56 => (some ((.tup []), r56.2))))))))))))))))))))))))))))))))))))))))
theorem rp82 (C : Nat → List V → H → Rr) (k : Nat) : dn C k c82 (rQ82 C k) = fun e h => (rK82 C k (e 0) (e 1) h) := by kernel_rfl
def F82 : RF := fun C k a h => match a with
  | [a0, a1] => rK82 C k a0 a1 h
  | _ => none
theorem ro82 : RunOK IP 82 F82 := ⟨ir82, ip82, by kernel_rfl, fun C k a h r e => by
  unfold F82 at e
  split at e
  · exact ⟨by kernel_rfl, (congrFun (congrFun (rp82 C k) _) h).trans e⟩
  · cases e⟩
theorem ip85 : IP 85 = some ir85 := rfl
def rQ85 (C : Nat → List V → H → Rr) (k : Nat) : X → E → H → Rr := Qrr rs85
def rK85 (C : Nat → List V → H → Rr) (k : Nat) (x0 x1 : V) (h : H) : Rr := (rK (C 93 [x0, x1] h) fun v1 h2 => (rB (bin .geq v1 (.i .i64 0)) fun v3 => (some (v3, h2))))
theorem rp85 (C : Nat → List V → H → Rr) (k : Nat) : dn C k c85 (rQ85 C k) = fun e h => (rK85 C k (e 0) (e 1) h) := by kernel_rfl
def F85 : RF := fun C k a h => match a with
  | [a0, a1] => rK85 C k a0 a1 h
  | _ => none
theorem ro85 : RunOK IP 85 F85 := ⟨ir85, ip85, by kernel_rfl, fun C k a h r e => by
  unfold F85 at e
  split at e
  · exact ⟨by kernel_rfl, (congrFun (congrFun (rp85 C k) _) h).trans e⟩
  · cases e⟩
theorem ip87 : IP 87 = some ir87 := rfl
def rQ87 (C : Nat → List V → H → Rr) (k : Nat) : X → E → H → Rr := Qrr rs87
def rR87_1 (C : Nat → List V → H → Rr) (k : Nat) : X → E → H → Rr := (Qbr 0 (rQ87 C k))
def rQ87_1 (C : Nat → List V → H → Rr) (k : Nat) (g87_1 : V → V → V → V → H → Rr) : X → E → H → Rr := Qxr (fun e h => g87_1 (e 0) (e 24) (e 25) (e 26) h) (rR87_1 C k)
def rL87_1 (C : Nat → List V → H → Rr) (k : Nat) (g87_1 : V → V → V → V → H → Rr) (x0 x24 x25 x26 : V) (h : H) : Rr := (rB (bin .lss x26 x25) fun v1 => (rS v1 (rB (vIa 6 x24 x26) fun v2 => (rB (vLdA h 6 v2) fun v3 => (rB (some (.p (some (H.nx h, 0)), H.new h ⟨false, [(.i .i64 0), (.i .i64 0), (.i .i64 0), (.i .i64 0), (.i .i64 0), (.i .i64 0)]⟩)) fun r4 => (rB (vStore r4.2 6 r4.1 v3) fun r5 => (rB (vLdA r5.2 6 r4.1) fun v6 => (rK (C 82 [x0, v6] r5.2) fun v7 h8 => (rB (bin .add x26 (.i .i64 1)) fun v9 => (g87_1 x0 x24 x25 v9 h8)))))))) (some ((.tup []), h))))
theorem rp87_1 (C : Nat → List V → H → Rr) (k : Nat) (g87_1 : V → V → V → V → H → Rr) : dn C k c87_1 (rQ87_1 C k g87_1) = fun e h => (rL87_1 C k g87_1 (e 0) (e 24) (e 25) (e 26) h) := by kernel_rfl
def rW87_1 (C : Nat → List V → H → Rr) (k : Nat) (x0 x24 x25 x26 : V) (h : H) : Rr := rFix k (fun (g : V × V × V × V × Unit → H → Rr) (x : V × V × V × V × Unit) h => rL87_1 C k (fun y0 y24 y25 y26 h => g (y0, y24, y25, y26, ()) h) x.1 x.2.1 x.2.2.1 x.2.2.2.1 h) (x0, x24, x25, x26, ()) h
theorem rn87_1 (C : Nat → List V → H → Rr) (k : Nat) : ∀ g : V × V × V × V × Unit → H → Rr, dn C k c87_1 (Qxr (fun e h => g ((fun e : E => ((e 0, e 24, e 25, e 26, ()) : V × V × V × V × Unit)) e) h) (rR87_1 C k)) = fun e h => (fun (g : V × V × V × V × Unit → H → Rr) (x : V × V × V × V × Unit) h => rL87_1 C k (fun y0 y24 y25 y26 h => g (y0, y24, y25, y26, ()) h) x.1 x.2.1 x.2.2.1 x.2.2.2.1 h) g ((fun e : E => ((e 0, e 24, e 25, e 26, ()) : V × V × V × V × Unit)) e) h := fun g => rp87_1 C k (fun y0 y24 y25 y26 h => g (y0, y24, y25, y26, ()) h)
theorem rw87_1 (C : Nat → List V → H → Rr) (k : Nat) : dn C k (.loop c87_1) (rR87_1 C k) = fun e h => (rW87_1 C k (e 0) (e 24) (e 25) (e 26) h) := rloop_eq (fun e : E => ((e 0, e 24, e 25, e 26, ()) : V × V × V × V × Unit)) (fun (g : V × V × V × V × Unit → H → Rr) (x : V × V × V × V × Unit) h => rL87_1 C k (fun y0 y24 y25 y26 h => g (y0, y24, y25, y26, ()) h) x.1 x.2.1 x.2.2.1 x.2.2.2.1 h) (rn87_1 C k)
def rK87 (C : Nat → List V → H → Rr) (k : Nat) (x0 x1 x2 : V) (h : H) : Rr := (rB (vNilc x0) fun v1 => (rB (vFa 1 v1) fun v2 => (rB (vIaa 16 3 v2 x1) fun v3 => (rB (vIaa 1 16 v3 x2) fun v4 => (rB (vLd1 h v4) fun v5 => (rB (vNilc x0) fun v6 => (rB (vFa 1 v6) fun v7 => (rB (vIaa 16 3 v7 x1) fun v8 => (rB (vIaa 1 16 v8 x2) fun v9 => (rB (vStore h 1 v9 V.nsl) fun r10 => (rB (vLens v5) fun v11 => (rW87_1 C k x0 v5 v11 (.i .i64 0) r10.2))))))))))))
theorem rp87 (C : Nat → List V → H → Rr) (k : Nat) : dn C k c87 (rQ87 C k) = fun e h => (rK87 C k (e 0) (e 1) (e 2) h) := by
  refine Eq.trans (rseq_eq (rseq_eq (rseq_eq (rblock_eq (rw87_1 C k)) rfl) rfl) rfl) ?_
  kernel_rfl
def F87 : RF := fun C k a h => match a with
  | [a0, a1, a2] => rK87 C k a0 a1 a2 h
  | _ => none
theorem ro87 : RunOK IP 87 F87 := ⟨ir87, ip87, by kernel_rfl, fun C k a h r e => by
  unfold F87 at e
  split at e
  · exact ⟨by kernel_rfl, (congrFun (congrFun (rp87 C k) _) h).trans e⟩
  · cases e⟩
theorem ip88 : IP 88 = some ir88 := rfl
def rQ88 (C : Nat → List V → H → Rr) (k : Nat) : X → E → H → Rr := Qrr rs88
def rK88 (C : Nat → List V → H → Rr) (k : Nat) (x0 : V) (h : H) : Rr := (rB (bin .mul (.i .i64 4) x0) fun v1 => (rB (bin .shl (.i .i64 1) v1) fun v2 => (some (v2, h))))
theorem rp88 (C : Nat → List V → H → Rr) (k : Nat) : dn C k c88 (rQ88 C k) = fun e h => (rK88 C k (e 0) h) := by kernel_rfl
def F88 : RF := fun C k a h => match a with
  | [a0] => rK88 C k a0 h
  | _ => none
theorem ro88 : RunOK IP 88 F88 := ⟨ir88, ip88, by kernel_rfl, fun C k a h r e => by
  unfold F88 at e
  split at e
  · exact ⟨by kernel_rfl, (congrFun (congrFun (rp88 C k) _) h).trans e⟩
  · cases e⟩
theorem ip89 : IP 89 = some ir89 := rfl
def rQ89 (C : Nat → List V → H → Rr) (k : Nat) : X → E → H → Rr := Qrr rs89
def rQ89_1 (C : Nat → List V → H → Rr) (k : Nat) : X → E → H → Rr := (rQ89 C k)
def rK89_1 (C : Nat → List V → H → Rr) (k : Nat) (x0 x1 x2 : V) (h : H) : Rr := (rK (C 69 [x0] h) fun v1 h2 => (rB (bin .quo v1 x1) fun v3 => (rB (bin .rem v3 x2) fun v4 => (some (v4, h2)))))
def rJ89_1 (C : Nat → List V → H → Rr) (k : Nat) : E → H → Rr := fun e h => (rK89_1 C k (e 0) (e 1) (e 2) h)
theorem rp89_1 (C : Nat → List V → H → Rr) (k : Nat) : dn C k c89_1 (rQ89_1 C k) = (rJ89_1 C k) := by kernel_rfl
def rQ89_2 (C : Nat → List V → H → Rr) (k : Nat) : X → E → H → Rr := (Qxr (rJ89_1 C k) (rQ89 C k))
def rK89_2 (C : Nat → List V → H → Rr) (k : Nat) (x0 x1 x2 x12 : V) (h : H) : Rr := (rS x12 (some ((.i .i64 0), h)) (rK89_1 C k x0 x1 x2 h))
def rJ89_2 (C : Nat → List V → H → Rr) (k : Nat) : E → H → Rr := fun e h => (rK89_2 C k (e 0) (e 1) (e 2) (e 12) h)
theorem rp89_2 (C : Nat → List V → H → Rr) (k : Nat) : dn C k c89_2 (rQ89_2 C k) = (rJ89_2 C k) := by kernel_rfl
def rS89_6 (C : Nat → List V → H → Rr) (k : Nat) : E → H → Rr := ((Qxr (rJ89_2 C k) (Qxr (rJ89_1 C k) (rQ89 C k))) X.normal)
def rK89_6 (C : Nat → List V → H → Rr) (k : Nat) (x0 x1 x2 x9 x11 : V) (h : H) : Rr := (rB (vPick x9 (.b true) x11) fun v1 => (rK89_2 C k x0 x1 x2 v1 h))
def rJ89_6 (C : Nat → List V → H → Rr) (k : Nat) : E → H → Rr := fun e h => (rK89_6 C k (e 0) (e 1) (e 2) (e 9) (e 11) h)
theorem rp89_6 (C : Nat → List V → H → Rr) (k : Nat) : dnOps C o89_3 (rS89_6 C k) = (rJ89_6 C k) := by
  refine Eq.trans (rapp_eq rfl rfl) ?_
  kernel_rfl
def rK89 (C : Nat → List V → H → Rr) (k : Nat) (x0 x1 x2 : V) (h : H) : Rr := (rB (bin .lss x1 (.i .i64 1)) fun v1 => (rG v1 false (rB (bin .lss x2 (.i .i64 1)) fun v2 => (rK89_6 C k x0 x1 x2 v1 v2 h)) (rK89_6 C k x0 x1 x2 v1 undefV h)))
theorem rp89 (C : Nat → List V → H → Rr) (k : Nat) : dn C k c89 (rQ89 C k) = fun e h => (rK89 C k (e 0) (e 1) (e 2) h) := by
  refine Eq.trans (rseq_eq (rseq_eq (rp89_1 C k) (rseq_eq (rp89_2 C k) (rregion_eq (rapp_eq (rgrp_eq2 9 false rfl (rp89_6 C k) rfl) rfl)))) rfl) ?_
  kernel_rfl
def F89 : RF := fun C k a h => match a with
  | [a0, a1, a2] => rK89 C k a0 a1 a2 h
  | _ => none
theorem ro89 : RunOK IP 89 F89 := ⟨ir89, ip89, by kernel_rfl, fun C k a h r e => by
  unfold F89 at e
  split at e
  · exact ⟨by kernel_rfl, (congrFun (congrFun (rp89 C k) _) h).trans e⟩
  · cases e⟩
theorem ip90 : IP 90 = some ir90 := rfl
def rQ90 (C : Nat → List V → H → Rr) (k : Nat) : X → E → H → Rr := Qrr rs90
def rK90 (C : Nat → List V → H → Rr) (k : Nat) (x0 x1 x2 : V) (h : H) : Rr := (rB (vBox x2 h) fun r1 => (rB (some (.fn 95 [r1.1])) fun v2 => (rK (C 94 [x1, v2] r1.2) fun v3 h4 => (rB (vNilc x0) fun v5 => (rB (vFa 51 v5) fun v6 => (rB (vLd1 h4 v6) fun v7 => (rB (vLens x1) fun v8 => (rB (vLens v3) fun v9 => (rB (bin .sub v8 v9) fun v10 => (rB (bin .sub v7 v10) fun v11 => (rB (vNilc x0) fun v12 => (rB (vFa 51 v12) fun v13 => (rB (vStore h4 1 v13 v11) fun r14 => (some (v3, r14.2)))))))))))))))
theorem rp90 (C : Nat → List V → H → Rr) (k : Nat) : dn C k c90 (rQ90 C k) = fun e h => (rK90 C k (e 0) (e 1) (e 2) h) := by kernel_rfl
def F90 : RF := fun C k a h => match a with
  | [a0, a1, a2] => rK90 C k a0 a1 a2 h
  | _ => none
theorem ro90 : RunOK IP 90 F90 := ⟨ir90, ip90, by kernel_rfl, fun C k a h r e => by
  unfold F90 at e
  split at e
  · exact ⟨by kernel_rfl, (congrFun (congrFun (rp90 C k) _) h).trans e⟩
  · cases e⟩
theorem ip91 : IP 91 = some ir91 := rfl
def rQ91 (C : Nat → List V → H → Rr) (k : Nat) : X → E → H → Rr := Qrr rs91
def rQ91_1 (C : Nat → List V → H → Rr) (k : Nat) : X → E → H → Rr := (rQ91 C k)
def rK91_1 (C : Nat → List V → H → Rr) (k : Nat) (x3 : V) (h : H) : Rr := (some (x3, h))
def rJ91_1 (C : Nat → List V → H → Rr) (k : Nat) : E → H → Rr := fun e h => (rK91_1 C k (e 3) h)
theorem rp91_1 (C : Nat → List V → H → Rr) (k : Nat) : dn C k c91_1 (rQ91_1 C k) = (rJ91_1 C k) := by kernel_rfl
def rR91_2 (C : Nat → List V → H → Rr) (k : Nat) : X → E → H → Rr := (Qbr 0 (Qxr (rJ91_1 C k) (rQ91 C k)))
def rQ91_2 (C : Nat → List V → H → Rr) (k : Nat) (g91_2 : V → V → H → Rr) : X → E → H → Rr := Qxr (fun e h => g91_2 (e 0) (e 3) h) (rR91_2 C k)
def rQ91_3 (C : Nat → List V → H → Rr) (k : Nat) (g91_2 : V → V → H → Rr) : X → E → H → Rr := (rQ91_2 C k g91_2)
def rK91_3 (C : Nat → List V → H → Rr) (k : Nat) (g91_2 : V → V → H → Rr) (x0 x3 : V) (h : H) : Rr := (rB (bin .add x3 (.i .i64 1)) fun v1 => (g91_2 x0 v1 h))
def rJ91_3 (C : Nat → List V → H → Rr) (k : Nat) (g91_2 : V → V → H → Rr) : E → H → Rr := fun e h => (rK91_3 C k g91_2 (e 0) (e 3) h)
theorem rp91_3 (C : Nat → List V → H → Rr) (k : Nat) (g91_2 : V → V → H → Rr) : dn C k c91_3 (rQ91_3 C k g91_2) = (rJ91_3 C k g91_2) := by kernel_rfl
def rQ91_4 (C : Nat → List V → H → Rr) (k : Nat) (g91_2 : V → V → H → Rr) : X → E → H → Rr := (Qxr (rJ91_3 C k g91_2) (rQ91_2 C k g91_2))
def rK91_4 (C : Nat → List V → H → Rr) (k : Nat) (g91_2 : V → V → H → Rr) (x0 x3 x12 : V) (h : H) : Rr := (rS x12 (rK91_3 C k g91_2 x0 x3 h) (rK91_1 C k x3 h))
def rJ91_4 (C : Nat → List V → H → Rr) (k : Nat) (g91_2 : V → V → H → Rr) : E → H → Rr := fun e h => (rK91_4 C k g91_2 (e 0) (e 3) (e 12) h)
theorem rp91_4 (C : Nat → List V → H → Rr) (k : Nat) (g91_2 : V → V → H → Rr) : dn C k c91_4 (rQ91_4 C k g91_2) = (rJ91_4 C k g91_2) := by kernel_rfl
def rS91_8 (C : Nat → List V → H → Rr) (k : Nat) (g91_2 : V → V → H → Rr) : E → H → Rr := ((Qxr (rJ91_4 C k g91_2) (Qxr (rJ91_3 C k g91_2) (rQ91_2 C k g91_2))) X.normal)
def rK91_8 (C : Nat → List V → H → Rr) (k : Nat) (g91_2 : V → V → H → Rr) (x0 x3 x6 x11 : V) (h : H) : Rr := (rB (vPick x6 x11 (.b false)) fun v1 => (rK91_4 C k g91_2 x0 x3 v1 h))
def rJ91_8 (C : Nat → List V → H → Rr) (k : Nat) (g91_2 : V → V → H → Rr) : E → H → Rr := fun e h => (rK91_8 C k g91_2 (e 0) (e 3) (e 6) (e 11) h)
theorem rp91_8 (C : Nat → List V → H → Rr) (k : Nat) (g91_2 : V → V → H → Rr) : dnOps C o91_5 (rS91_8 C k g91_2) = (rJ91_8 C k g91_2) := by
  refine Eq.trans (rapp_eq rfl rfl) ?_
  kernel_rfl
def rL91_2 (C : Nat → List V → H → Rr) (k : Nat) (g91_2 : V → V → H → Rr) (x0 x3 : V) (h : H) : Rr := (rB (bin .lss x3 (.i .i64 3)) fun v1 => (rG v1 true (rB (bin .add x3 (.i .i64 1)) fun v2 => (rK (C 88 [v2] h) fun v3 h4 => (rB (bin .geq x0 v3) fun v5 => (rK91_8 C k g91_2 x0 x3 v1 v5 h4)))) (rK91_8 C k g91_2 x0 x3 v1 undefV h)))
theorem rp91_2 (C : Nat → List V → H → Rr) (k : Nat) (g91_2 : V → V → H → Rr) : dn C k c91_2 (rQ91_2 C k g91_2) = fun e h => (rL91_2 C k g91_2 (e 0) (e 3) h) := by
  refine Eq.trans (rseq_eq (rp91_3 C k g91_2) (rseq_eq (rp91_4 C k g91_2) (rregion_eq (rapp_eq (rgrp_eq2 6 true rfl (rp91_8 C k g91_2) rfl) rfl)))) ?_
  kernel_rfl
def rW91_2 (C : Nat → List V → H → Rr) (k : Nat) (x0 x3 : V) (h : H) : Rr := rFix k (fun (g : V × V × Unit → H → Rr) (x : V × V × Unit) h => rL91_2 C k (fun y0 y3 h => g (y0, y3, ()) h) x.1 x.2.1 h) (x0, x3, ()) h
theorem rn91_2 (C : Nat → List V → H → Rr) (k : Nat) : ∀ g : V × V × Unit → H → Rr, dn C k c91_2 (Qxr (fun e h => g ((fun e : E => ((e 0, e 3, ()) : V × V × Unit)) e) h) (rR91_2 C k)) = fun e h => (fun (g : V × V × Unit → H → Rr) (x : V × V × Unit) h => rL91_2 C k (fun y0 y3 h => g (y0, y3, ()) h) x.1 x.2.1 h) g ((fun e : E => ((e 0, e 3, ()) : V × V × Unit)) e) h := fun g => rp91_2 C k (fun y0 y3 h => g (y0, y3, ()) h)
theorem rw91_2 (C : Nat → List V → H → Rr) (k : Nat) : dn C k (.loop c91_2) (rR91_2 C k) = fun e h => (rW91_2 C k (e 0) (e 3) h) := rloop_eq (fun e : E => ((e 0, e 3, ()) : V × V × Unit)) (fun (g : V × V × Unit → H → Rr) (x : V × V × Unit) h => rL91_2 C k (fun y0 y3 h => g (y0, y3, ()) h) x.1 x.2.1 h) (rn91_2 C k)
def rK91 (C : Nat → List V → H → Rr) (k : Nat) (x0 : V) (h : H) : Rr := (rW91_2 C k x0 (.i .i64 0) h)
theorem rp91 (C : Nat → List V → H → Rr) (k : Nat) : dn C k c91 (rQ91 C k) = fun e h => (rK91 C k (e 0) h) := by
  refine Eq.trans (rseq_eq (rseq_eq (rseq_eq (rp91_1 C k) (rblock_eq (rw91_2 C k))) rfl) rfl) ?_
  kernel_rfl
def F91 : RF := fun C k a h => match a with
  | [a0] => rK91 C k a0 h
  | _ => none
theorem ro91 : RunOK IP 91 F91 := ⟨ir91, ip91, by kernel_rfl, fun C k a h r e => by
  unfold F91 at e
  split at e
  · exact ⟨by kernel_rfl, (congrFun (congrFun (rp91 C k) _) h).trans e⟩
  · cases e⟩
theorem ip93 : IP 93 = some ir93 := rfl
def rQ93 (C : Nat → List V → H → Rr) (k : Nat) : X → E → H → Rr := Qrr rs93
def rQ93_1 (C : Nat → List V → H → Rr) (k : Nat) : X → E → H → Rr := (rQ93 C k)
def rK93_1 (C : Nat → List V → H → Rr) (k : Nat) (h : H) : Rr := (some ((.i .i64 (-1)), h))
def rJ93_1 (C : Nat → List V → H → Rr) (k : Nat) : E → H → Rr := fun e h => (rK93_1 C k h)
theorem rp93_1 (C : Nat → List V → H → Rr) (k : Nat) : dn C k c93_1 (rQ93_1 C k) = (rJ93_1 C k) := by kernel_rfl
def rR93_2 (C : Nat → List V → H → Rr) (k : Nat) : X → E → H → Rr := (Qbr 0 (Qxr (rJ93_1 C k) (rQ93 C k)))
def rQ93_2 (C : Nat → List V → H → Rr) (k : Nat) (g93_2 : V → V → V → V → H → Rr) : X → E → H → Rr := Qxr (fun e h => g93_2 (e 0) (e 1) (e 7) (e 8) h) (rR93_2 C k)
def rL93_2 (C : Nat → List V → H → Rr) (k : Nat) (g93_2 : V → V → V → V → H → Rr) (x0 x1 x7 x8 : V) (h : H) : Rr := (rB (bin .lss x8 x7) fun v1 => (rS v1 (rB (vIa 1 x0 x8) fun v2 => (rB (vLd1 h v2) fun v3 => (rB (bin .eql x1 v3) fun v4 => (rS v4 (some (x8, h)) (rB (bin .add x8 (.i .i64 1)) fun v5 => (g93_2 x0 x1 x7 v5 h)))))) (rK93_1 C k h)))
theorem rp93_2 (C : Nat → List V → H → Rr) (k : Nat) (g93_2 : V → V → V → V → H → Rr) : dn C k c93_2 (rQ93_2 C k g93_2) = fun e h => (rL93_2 C k g93_2 (e 0) (e 1) (e 7) (e 8) h) := by kernel_rfl
def rW93_2 (C : Nat → List V → H → Rr) (k : Nat) (x0 x1 x7 x8 : V) (h : H) : Rr := rFix k (fun (g : V × V × V × V × Unit → H → Rr) (x : V × V × V × V × Unit) h => rL93_2 C k (fun y0 y1 y7 y8 h => g (y0, y1, y7, y8, ()) h) x.1 x.2.1 x.2.2.1 x.2.2.2.1 h) (x0, x1, x7, x8, ()) h
theorem rn93_2 (C : Nat → List V → H → Rr) (k : Nat) : ∀ g : V × V × V × V × Unit → H → Rr, dn C k c93_2 (Qxr (fun e h => g ((fun e : E => ((e 0, e 1, e 7, e 8, ()) : V × V × V × V × Unit)) e) h) (rR93_2 C k)) = fun e h => (fun (g : V × V × V × V × Unit → H → Rr) (x : V × V × V × V × Unit) h => rL93_2 C k (fun y0 y1 y7 y8 h => g (y0, y1, y7, y8, ()) h) x.1 x.2.1 x.2.2.1 x.2.2.2.1 h) g ((fun e : E => ((e 0, e 1, e 7, e 8, ()) : V × V × V × V × Unit)) e) h := fun g => rp93_2 C k (fun y0 y1 y7 y8 h => g (y0, y1, y7, y8, ()) h)
theorem rw93_2 (C : Nat → List V → H → Rr) (k : Nat) : dn C k (.loop c93_2) (rR93_2 C k) = fun e h => (rW93_2 C k (e 0) (e 1) (e 7) (e 8) h) := rloop_eq (fun e : E => ((e 0, e 1, e 7, e 8, ()) : V × V × V × V × Unit)) (fun (g : V × V × V × V × Unit → H → Rr) (x : V × V × V × V × Unit) h => rL93_2 C k (fun y0 y1 y7 y8 h => g (y0, y1, y7, y8, ()) h) x.1 x.2.1 x.2.2.1 x.2.2.2.1 h) (rn93_2 C k)
def rK93 (C : Nat → List V → H → Rr) (k : Nat) (x0 x1 : V) (h : H) : Rr := (rB (vLens x0) fun v1 => (rW93_2 C k x0 x1 v1 (.i .i64 0) h))
theorem rp93 (C : Nat → List V → H → Rr) (k : Nat) : dn C k c93 (rQ93 C k) = fun e h => (rK93 C k (e 0) (e 1) h) := by
  refine Eq.trans (rseq_eq (rseq_eq (rp93_1 C k) (rseq_eq (rblock_eq (rw93_2 C k)) rfl)) rfl) ?_
  kernel_rfl
def F93 : RF := fun C k a h => match a with
  | [a0, a1] => rK93 C k a0 a1 h
  | _ => none
theorem ro93 : RunOK IP 93 F93 := ⟨ir93, ip93, by kernel_rfl, fun C k a h r e => by
  unfold F93 at e
  split at e
  · exact ⟨by kernel_rfl, (congrFun (congrFun (rp93 C k) _) h).trans e⟩
  · cases e⟩
theorem ip94 : IP 94 = some ir94 := rfl
def rQ94 (C : Nat → List V → H → Rr) (k : Nat) : X → E → H → Rr := Qrr rs94
def rQ94_1 (C : Nat → List V → H → Rr) (k : Nat) : X → E → H → Rr := (rQ94 C k)
def rK94_1 (C : Nat → List V → H → Rr) (k : Nat) (x0 x5 : V) (h : H) : Rr := (rB (slcut 6 x0 (some x5) none none) fun v1 => (rB (vClear [(.i .i64 0), (.i .i64 0), (.i .i64 0), (.i .i64 0), (.i .i64 0), (.i .i64 0)] v1 h) fun r2 => (rB (slcut 6 x0 none (some x5) none) fun v3 => (some (v3, r2.2)))))
def rJ94_1 (C : Nat → List V → H → Rr) (k : Nat) : E → H → Rr := fun e h => (rK94_1 C k (e 0) (e 5) h)
theorem rp94_1 (C : Nat → List V → H → Rr) (k : Nat) : dn C k c94_1 (rQ94_1 C k) = (rJ94_1 C k) := by kernel_rfl
def rR94_2 (C : Nat → List V → H → Rr) (k : Nat) : X → E → H → Rr := (Qbr 0 (Qxr (rJ94_1 C k) (rQ94 C k)))
def rQ94_2 (C : Nat → List V → H → Rr) (k : Nat) (g94_2 : V → V → V → V → H → Rr) : X → E → H → Rr := Qxr (fun e h => g94_2 (e 0) (e 1) (e 5) (e 6) h) (rR94_2 C k)
def rQ94_3 (C : Nat → List V → H → Rr) (k : Nat) (g94_2 : V → V → V → V → H → Rr) : X → E → H → Rr := (rQ94_2 C k g94_2)
def rK94_3 (C : Nat → List V → H → Rr) (k : Nat) (g94_2 : V → V → V → V → H → Rr) (x0 x1 x5 x6 : V) (h : H) : Rr := (rB (bin .add x6 (.i .i64 1)) fun v1 => (g94_2 x0 x1 x5 v1 h))
def rJ94_3 (C : Nat → List V → H → Rr) (k : Nat) (g94_2 : V → V → V → V → H → Rr) : E → H → Rr := fun e h => (rK94_3 C k g94_2 (e 0) (e 1) (e 5) (e 6) h)
theorem rp94_3 (C : Nat → List V → H → Rr) (k : Nat) (g94_2 : V → V → V → V → H → Rr) : dn C k c94_3 (rQ94_3 C k g94_2) = (rJ94_3 C k g94_2) := by kernel_rfl
def rL94_2 (C : Nat → List V → H → Rr) (k : Nat) (g94_2 : V → V → V → V → H → Rr) (x0 x1 x5 x6 : V) (h : H) : Rr := (rB (vLens x0) fun v1 => (rB (bin .lss x6 v1) fun v2 => (rS v2 (rB (vIa 6 x0 x6) fun v3 => (rB (vLdA h 6 v3) fun v4 => (rB (some (.p (some (H.nx h, 0)), H.new h ⟨false, [(.i .i64 0), (.i .i64 0), (.i .i64 0), (.i .i64 0), (.i .i64 0), (.i .i64 0)]⟩)) fun r5 => (rB (vStore r5.2 6 r5.1 v4) fun r6 => (rB (vLdA r6.2 6 r5.1) fun v7 => (rK (rV C x1 [v7] r6.2) fun v8 h9 => (rB (un .not v8) fun v10 => (rS v10 (rB (vLdA h9 6 r5.1) fun v11 => (rB (vIa 6 x0 x5) fun v12 => (rB (vStore h9 6 v12 v11) fun r13 => (rB (bin .add x5 (.i .i64 1)) fun v14 => (rK94_3 C k g94_2 x0 x1 v14 x6 r13.2))))) (rK94_3 C k g94_2 x0 x1 x5 x6 h9))))))))) (rK94_1 C k x0 x5 h))))
theorem rp94_2 (C : Nat → List V → H → Rr) (k : Nat) (g94_2 : V → V → V → V → H → Rr) : dn C k c94_2 (rQ94_2 C k g94_2) = fun e h => (rL94_2 C k g94_2 (e 0) (e 1) (e 5) (e 6) h) := by
  refine Eq.trans (rseq_eq (rseq_eq (rp94_3 C k g94_2) rfl) rfl) ?_
  kernel_rfl
def rW94_2 (C : Nat → List V → H → Rr) (k : Nat) (x0 x1 x5 x6 : V) (h : H) : Rr := rFix k (fun (g : V × V × V × V × Unit → H → Rr) (x : V × V × V × V × Unit) h => rL94_2 C k (fun y0 y1 y5 y6 h => g (y0, y1, y5, y6, ()) h) x.1 x.2.1 x.2.2.1 x.2.2.2.1 h) (x0, x1, x5, x6, ()) h
theorem rn94_2 (C : Nat → List V → H → Rr) (k : Nat) : ∀ g : V × V × V × V × Unit → H → Rr, dn C k c94_2 (Qxr (fun e h => g ((fun e : E => ((e 0, e 1, e 5, e 6, ()) : V × V × V × V × Unit)) e) h) (rR94_2 C k)) = fun e h => (fun (g : V × V × V × V × Unit → H → Rr) (x : V × V × V × V × Unit) h => rL94_2 C k (fun y0 y1 y5 y6 h => g (y0, y1, y5, y6, ()) h) x.1 x.2.1 x.2.2.1 x.2.2.2.1 h) g ((fun e : E => ((e 0, e 1, e 5, e 6, ()) : V × V × V × V × Unit)) e) h := fun g => rp94_2 C k (fun y0 y1 y5 y6 h => g (y0, y1, y5, y6, ()) h)
theorem rw94_2 (C : Nat → List V → H → Rr) (k : Nat) : dn C k (.loop c94_2) (rR94_2 C k) = fun e h => (rW94_2 C k (e 0) (e 1) (e 5) (e 6) h) := rloop_eq (fun e : E => ((e 0, e 1, e 5, e 6, ()) : V × V × V × V × Unit)) (fun (g : V × V × V × V × Unit → H → Rr) (x : V × V × V × V × Unit) h => rL94_2 C k (fun y0 y1 y5 y6 h => g (y0, y1, y5, y6, ()) h) x.1 x.2.1 x.2.2.1 x.2.2.2.1 h) (rn94_2 C k)
def rK94 (C : Nat → List V → H → Rr) (k : Nat) (x0 x1 : V) (h : H) : Rr := (rK (C 98 [x0, x1] h) fun v1 h2 => (rB (bin .eql v1 (.i .i64 (-1))) fun v3 => (rS v3 (some (x0, h2)) (rB (bin .add v1 (.i .i64 1)) fun v4 => (rW94_2 C k x0 x1 v1 v4 h2)))))
theorem rp94 (C : Nat → List V → H → Rr) (k : Nat) : dn C k c94 (rQ94 C k) = fun e h => (rK94 C k (e 0) (e 1) h) := by
  refine Eq.trans (rseq_eq (rseq_eq (rseq_eq (rseq_eq (rp94_1 C k) (rseq_eq (rblock_eq (rw94_2 C k)) rfl)) rfl) rfl) rfl) ?_
  kernel_rfl
def F94 : RF := fun C k a h => match a with
  | [a0, a1] => rK94 C k a0 a1 h
  | _ => none
theorem ro94 : RunOK IP 94 F94 := ⟨ir94, ip94, by kernel_rfl, fun C k a h r e => by
  unfold F94 at e
  split at e
  · exact ⟨by kernel_rfl, (congrFun (congrFun (rp94 C k) _) h).trans e⟩
  · cases e⟩
theorem ip98 : IP 98 = some ir98 := rfl
def rQ98 (C : Nat → List V → H → Rr) (k : Nat) : X → E → H → Rr := Qrr rs98
def rQ98_1 (C : Nat → List V → H → Rr) (k : Nat) : X → E → H → Rr := (rQ98 C k)
def rK98_1 (C : Nat → List V → H → Rr) (k : Nat) (h : H) : Rr := (some ((.i .i64 (-1)), h))
def rJ98_1 (C : Nat → List V → H → Rr) (k : Nat) : E → H → Rr := fun e h => (rK98_1 C k h)
theorem rp98_1 (C : Nat → List V → H → Rr) (k : Nat) : dn C k c98_1 (rQ98_1 C k) = (rJ98_1 C k) := by kernel_rfl
def rR98_2 (C : Nat → List V → H → Rr) (k : Nat) : X → E → H → Rr := (Qbr 0 (Qxr (rJ98_1 C k) (rQ98 C k)))
def rQ98_2 (C : Nat → List V → H → Rr) (k : Nat) (g98_2 : V → V → V → V → H → Rr) : X → E → H → Rr := Qxr (fun e h => g98_2 (e 0) (e 1) (e 7) (e 8) h) (rR98_2 C k)
def rL98_2 (C : Nat → List V → H → Rr) (k : Nat) (g98_2 : V → V → V → V → H → Rr) (x0 x1 x7 x8 : V) (h : H) : Rr := (rB (bin .lss x8 x7) fun v1 => (rS v1 (rB (vIa 6 x0 x8) fun v2 => (rB (vLdA h 6 v2) fun v3 => (rK (rV C x1 [v3] h) fun v4 h5 => (rS v4 (some (x8, h5)) (rB (bin .add x8 (.i .i64 1)) fun v6 => (g98_2 x0 x1 x7 v6 h5)))))) (rK98_1 C k h)))
theorem rp98_2 (C : Nat → List V → H → Rr) (k : Nat) (g98_2 : V → V → V → V → H → Rr) : dn C k c98_2 (rQ98_2 C k g98_2) = fun e h => (rL98_2 C k g98_2 (e 0) (e 1) (e 7) (e 8) h) := by kernel_rfl
def rW98_2 (C : Nat → List V → H → Rr) (k : Nat) (x0 x1 x7 x8 : V) (h : H) : Rr := rFix k (fun (g : V × V × V × V × Unit → H → Rr) (x : V × V × V × V × Unit) h => rL98_2 C k (fun y0 y1 y7 y8 h => g (y0, y1, y7, y8, ()) h) x.1 x.2.1 x.2.2.1 x.2.2.2.1 h) (x0, x1, x7, x8, ()) h
theorem rn98_2 (C : Nat → List V → H → Rr) (k : Nat) : ∀ g : V × V × V × V × Unit → H → Rr, dn C k c98_2 (Qxr (fun e h => g ((fun e : E => ((e 0, e 1, e 7, e 8, ()) : V × V × V × V × Unit)) e) h) (rR98_2 C k)) = fun e h => (fun (g : V × V × V × V × Unit → H → Rr) (x : V × V × V × V × Unit) h => rL98_2 C k (fun y0 y1 y7 y8 h => g (y0, y1, y7, y8, ()) h) x.1 x.2.1 x.2.2.1 x.2.2.2.1 h) g ((fun e : E => ((e 0, e 1, e 7, e 8, ()) : V × V × V × V × Unit)) e) h := fun g => rp98_2 C k (fun y0 y1 y7 y8 h => g (y0, y1, y7, y8, ()) h)
theorem rw98_2 (C : Nat → List V → H → Rr) (k : Nat) : dn C k (.loop c98_2) (rR98_2 C k) = fun e h => (rW98_2 C k (e 0) (e 1) (e 7) (e 8) h) := rloop_eq (fun e : E => ((e 0, e 1, e 7, e 8, ()) : V × V × V × V × Unit)) (fun (g : V × V × V × V × Unit → H → Rr) (x : V × V × V × V × Unit) h => rL98_2 C k (fun y0 y1 y7 y8 h => g (y0, y1, y7, y8, ()) h) x.1 x.2.1 x.2.2.1 x.2.2.2.1 h) (rn98_2 C k)
def rK98 (C : Nat → List V → H → Rr) (k : Nat) (x0 x1 : V) (h : H) : Rr := (rB (vLens x0) fun v1 => (rW98_2 C k x0 x1 v1 (.i .i64 0) h))
theorem rp98 (C : Nat → List V → H → Rr) (k : Nat) : dn C k c98 (rQ98 C k) = fun e h => (rK98 C k (e 0) (e 1) h) := by
  refine Eq.trans (rseq_eq (rseq_eq (rp98_1 C k) (rseq_eq (rblock_eq (rw98_2 C k)) rfl)) rfl) ?_
  kernel_rfl
def F98 : RF := fun C k a h => match a with
  | [a0, a1] => rK98 C k a0 a1 h
  | _ => none
theorem ro98 : RunOK IP 98 F98 := ⟨ir98, ip98, by kernel_rfl, fun C k a h r e => by
  unfold F98 at e
  split at e
  · exact ⟨by kernel_rfl, (congrFun (congrFun (rp98 C k) _) h).trans e⟩
  · cases e⟩
def rtree : Tr RF := (.n (.n (.n (.n (.n (.n (.n .l (some F63) .l) (some F31) .l) (some F15) (.n (.n .l (some F79) .l) (some F47) .l)) (some F7) (.n (.n (.n .l (some F71) .l) (some F39) .l) (some F23) (.n (.n .l (some F87) .l) (some F55) .l))) none (.n (.n (.n .l (some F35) .l) (some F19) (.n .l (some F51) .l)) (some F11) (.n (.n .l (some F43) .l) (some F27) (.n (.n .l (some F91) .l) (some F59) .l)))) none (.n (.n (.n (.n (.n .l (some F65) .l) (some F33) .l) (some F17) (.n (.n .l (some F81) .l) (some F49) .l)) (some F9) (.n (.n (.n .l (some F73) .l) (some F41) .l) (some F25) (.n (.n .l (some F89) .l) (some F57) .l))) none (.n (.n (.n (.n .l (some F69) .l) (some F37) .l) (some F21) (.n (.n .l (some F85) .l) (some F53) .l)) (some F13) (.n (.n (.n .l (some F77) .l) (some F45) .l) (some F29) (.n (.n .l (some F93) .l) (some F61) .l))))) none (.n (.n (.n (.n (.n (.n .l (some F64) .l) (some F32) .l) (some F16) (.n (.n .l (some F80) .l) (some F48) .l)) none (.n (.n (.n .l (some F72) .l) (some F40) .l) (some F24) (.n (.n .l (some F88) .l) (some F56) .l))) none (.n (.n (.n .l (some F36) .l) (some F20) (.n .l (some F52) .l)) (some F12) (.n (.n (.n .l (some F76) .l) (some F44) .l) (some F28) .l))) none (.n (.n (.n (.n .l (some F34) (.n .l (some F98) .l)) (some F18) (.n (.n .l (some F82) .l) (some F50) .l)) (some F10) (.n (.n (.n .l (some F74) .l) (some F42) .l) (some F26) (.n (.n .l (some F90) .l) (some F58) .l))) none (.n (.n (.n (.n .l (some F70) .l) (some F38) .l) (some F22) (.n .l (some F54) .l)) (some F14) (.n (.n (.n .l (some F78) .l) (some F46) .l) (some F30) (.n (.n .l (some F94) .l) (some F62) .l))))))
def RP (f : Nat) : Option RF := rtree.get f
theorem rall : rtree.All (RunOK IP) 1 0 :=
  ⟨(fun _ h => by cases h), ⟨(fun _ h => by cases h), ⟨(fun _ h => by cases h), ⟨(fun _ h => by cases h; exact ro7), ⟨(fun _ h => by cases h; exact ro15), ⟨(fun _ h => by cases h; exact ro31), ⟨(fun _ h => by cases h; exact ro63), trivial, trivial⟩, trivial⟩, ⟨(fun _ h => by cases h; exact ro47), ⟨(fun _ h => by cases h; exact ro79), trivial, trivial⟩, trivial⟩⟩, ⟨(fun _ h => by cases h; exact ro23), ⟨(fun _ h => by cases h; exact ro39), ⟨(fun _ h => by cases h; exact ro71), trivial, trivial⟩, trivial⟩, ⟨(fun _ h => by cases h; exact ro55), ⟨(fun _ h => by cases h; exact ro87), trivial, trivial⟩, trivial⟩⟩⟩, ⟨(fun _ h => by cases h; exact ro11), ⟨(fun _ h => by cases h; exact ro19), ⟨(fun _ h => by cases h; exact ro35), trivial, trivial⟩, ⟨(fun _ h => by cases h; exact ro51), trivial, trivial⟩⟩, ⟨(fun _ h => by cases h; exact ro27), ⟨(fun _ h => by cases h; exact ro43), trivial, trivial⟩, ⟨(fun _ h => by cases h; exact ro59), ⟨(fun _ h => by cases h; exact ro91), trivial, trivial⟩, trivial⟩⟩⟩⟩, ⟨(fun _ h => by cases h), ⟨(fun _ h => by cases h; exact ro9), ⟨(fun _ h => by cases h; exact ro17), ⟨(fun _ h => by cases h; exact ro33), ⟨(fun _ h => by cases h; exact ro65), trivial, trivial⟩, trivial⟩, ⟨(fun _ h => by cases h; exact ro49), ⟨(fun _ h => by cases h; exact ro81), trivial, trivial⟩, trivial⟩⟩, ⟨(fun _ h => by cases h; exact ro25), ⟨(fun _ h => by cases h; exact ro41), ⟨(fun _ h => by cases h; exact ro73), trivial, trivial⟩, trivial⟩, ⟨(fun _ h => by cases h; exact ro57), ⟨(fun _ h => by cases h; exact ro89), trivial, trivial⟩, trivial⟩⟩⟩, ⟨(fun _ h => by cases h; exact ro13), ⟨(fun _ h => by cases h; exact ro21), ⟨(fun _ h => by cases h; exact ro37), ⟨(fun _ h => by cases h; exact ro69), trivial, trivial⟩, trivial⟩, ⟨(fun _ h => by cases h; exact ro53), ⟨(fun _ h => by cases h; exact ro85), trivial, trivial⟩, trivial⟩⟩, ⟨(fun _ h => by cases h; exact ro29), ⟨(fun _ h => by cases h; exact ro45), ⟨(fun _ h => by cases h; exact ro77), trivial, trivial⟩, trivial⟩, ⟨(fun _ h => by cases h; exact ro61), ⟨(fun _ h => by cases h; exact ro93), trivial, trivial⟩, trivial⟩⟩⟩⟩⟩, ⟨(fun _ h => by cases h), ⟨(fun _ h => by cases h), ⟨(fun _ h => by cases h), ⟨(fun _ h => by cases h; exact ro16), ⟨(fun _ h => by cases h; exact ro32), ⟨(fun _ h => by cases h; exact ro64), trivial, trivial⟩, trivial⟩, ⟨(fun _ h => by cases h; exact ro48), ⟨(fun _ h => by cases h; exact ro80), trivial, trivial⟩, trivial⟩⟩, ⟨(fun _ h => by cases h; exact ro24), ⟨(fun _ h => by cases h; exact ro40), ⟨(fun _ h => by cases h; exact ro72), trivial, trivial⟩, trivial⟩, ⟨(fun _ h => by cases h; exact ro56), ⟨(fun _ h => by cases h; exact ro88), trivial, trivial⟩, trivial⟩⟩⟩, ⟨(fun _ h => by cases h; exact ro12), ⟨(fun _ h => by cases h; exact ro20), ⟨(fun _ h => by cases h; exact ro36), trivial, trivial⟩, ⟨(fun _ h => by cases h; exact ro52), trivial, trivial⟩⟩, ⟨(fun _ h => by cases h; exact ro28), ⟨(fun _ h => by cases h; exact ro44), ⟨(fun _ h => by cases h; exact ro76), trivial, trivial⟩, trivial⟩, trivial⟩⟩⟩, ⟨(fun _ h => by cases h), ⟨(fun _ h => by cases h; exact ro10), ⟨(fun _ h => by cases h; exact ro18), ⟨(fun _ h => by cases h; exact ro34), trivial, ⟨(fun _ h => by cases h; exact ro98), trivial, trivial⟩⟩, ⟨(fun _ h => by cases h; exact ro50), ⟨(fun _ h => by cases h; exact ro82), trivial, trivial⟩, trivial⟩⟩, ⟨(fun _ h => by cases h; exact ro26), ⟨(fun _ h => by cases h; exact ro42), ⟨(fun _ h => by cases h; exact ro74), trivial, trivial⟩, trivial⟩, ⟨(fun _ h => by cases h; exact ro58), ⟨(fun _ h => by cases h; exact ro90), trivial, trivial⟩, trivial⟩⟩⟩, ⟨(fun _ h => by cases h; exact ro14), ⟨(fun _ h => by cases h; exact ro22), ⟨(fun _ h => by cases h; exact ro38), ⟨(fun _ h => by cases h; exact ro70), trivial, trivial⟩, trivial⟩, ⟨(fun _ h => by cases h; exact ro54), trivial, trivial⟩⟩, ⟨(fun _ h => by cases h; exact ro30), ⟨(fun _ h => by cases h; exact ro46), ⟨(fun _ h => by cases h; exact ro78), trivial, trivial⟩, trivial⟩, ⟨(fun _ h => by cases h; exact ro62), ⟨(fun _ h => by cases h; exact ro94), trivial, trivial⟩, trivial⟩⟩⟩⟩⟩⟩
theorem runs {k f : Nat} {a : List V} {h : H} {r : V × H} (e : run RP k f a h = some r) : ev IP k f a h = some r := run_ev (runOK_of_tree rall) k f a h r e
end Go.Proofs.YtbbencnhecokiaaDoor.IrClockNone
