/-
  The abstract machine's text of the functions that PostNone reaches, and: it is the loaded program's. Then the functions without temporaries.
-/
import Derived.Test.YtbbencnhecokiaaGreatDoorProg
import Derived.Test.YtbbencnhecokiaaGreatDoorMxT
import Derived.Test.YtbbencnhecokiaaGreatDoorMxU
import Derived.Test.YtbbencnhecokiaaGreatDoorMxV
import Derived.Test.YtbbencnhecokiaaGreatDoorMxX
import Derived.Test.YtbbencnhecokiaaGreatDoorIrPostNoneP0
namespace Go.Proofs.YtbbencnhecokiaaGreatDoor.IrPostNone
open Go Mx
set_option maxRecDepth 100000
set_option linter.unusedVariables false
theorem ip65 : IP 65 = some ir65 := rfl
def rQ65 (C : Nat → List V → H → Rr) (k : Nat) : X → E → H → Rr := Qrr rs65
def rS65_4 (C : Nat → List V → H → Rr) (k : Nat) : E → H → Rr := ((Qxr (dn C k .ret (rQ65 C k)) (rQ65 C k)) X.normal)
def rK65_4 (C : Nat → List V → H → Rr) (k : Nat) (x5 x7 : V) (h : H) : Rr := (rB (vPick x5 x7 (.b false)) fun v1 => (some (v1, h)))
def rJ65_4 (C : Nat → List V → H → Rr) (k : Nat) : E → H → Rr := fun e h => (rK65_4 C k (e 5) (e 7) h)
theorem rp65_4 (C : Nat → List V → H → Rr) (k : Nat) : dnOps C o65_1 (rS65_4 C k) = (rJ65_4 C k) := by
  refine Eq.trans (rapp_eq rfl rfl) ?_
  kernel_rfl
def rK65 (C : Nat → List V → H → Rr) (k : Nat) (x0 : V) (h : H) : Rr := (rB (bin .geq x0 (.i .i64 0)) fun v1 => (rG v1 true (rB (bin .lss x0 (.i .i64 4)) fun v2 => (rK65_4 C k v1 v2 h)) (rK65_4 C k v1 undefV h)))
theorem rp65 (C : Nat → List V → H → Rr) (k : Nat) : dn C k c65 (rQ65 C k) = fun e h => (rK65 C k (e 0) h) := by
  refine Eq.trans (rseq_eq (rseq_eq rfl (rregion_eq (rapp_eq (rgrp_eq2 5 true rfl (rp65_4 C k) rfl) rfl))) rfl) ?_
  kernel_rfl
def F65 : RF := fun C k a h => match a with
  | [a0] => rK65 C k a0 h
  | _ => none
theorem ro65 : RunOK IP 65 F65 := ⟨ir65, ip65, by kernel_rfl, fun C k a h r e => by
  unfold F65 at e
  split at e
  · exact ⟨by kernel_rfl, (congrFun (congrFun (rp65 C k) _) h).trans e⟩
  · cases e⟩
theorem ip66 : IP 66 = some ir66 := rfl
def rQ66 (C : Nat → List V → H → Rr) (k : Nat) : X → E → H → Rr := Qrr rs66
def rQ66_1 (C : Nat → List V → H → Rr) (k : Nat) : X → E → H → Rr := (rQ66 C k)
def rK66_1 (C : Nat → List V → H → Rr) (k : Nat) (x0 x2 : V) (h : H) : Rr := (rB (vNilc x0) fun v1 => (rB (vFa 3 v1) fun v2 => (rB (vLdA h 11 v2) fun v3 => (rB (vStore h 11 x2 v3) fun r4 => (rB (vLdA r4.2 11 x2) fun v5 => (some ((.tup [v5, (.b true)]), r4.2)))))))
def rJ66_1 (C : Nat → List V → H → Rr) (k : Nat) : E → H → Rr := fun e h => (rK66_1 C k (e 0) (e 2) h)
theorem rp66_1 (C : Nat → List V → H → Rr) (k : Nat) : dn C k c66_1 (rQ66_1 C k) = (rJ66_1 C k) := by kernel_rfl
def rQ66_2 (C : Nat → List V → H → Rr) (k : Nat) : X → E → H → Rr := (Qxr (rJ66_1 C k) (rQ66 C k))
def rK66_2 (C : Nat → List V → H → Rr) (k : Nat) (x0 x2 x12 : V) (h : H) : Rr := (rS x12 (rB (vBld [(.i .i64 0), (.i .i64 0), (.i .i64 0), (.i .i64 0), (.i .i64 0), (.i .u32 0), (.i .i64 0), (.b false), (.b false), (.i .i64 0), (.i .u32 0)] []) fun v1 => (rB (vStore h 11 x2 v1) fun r2 => (rB (vLdA r2.2 11 x2) fun v3 => (some ((.tup [v3, (.b false)]), r2.2))))) (rK66_1 C k x0 x2 h))
def rJ66_2 (C : Nat → List V → H → Rr) (k : Nat) : E → H → Rr := fun e h => (rK66_2 C k (e 0) (e 2) (e 12) h)
theorem rp66_2 (C : Nat → List V → H → Rr) (k : Nat) : dn C k c66_2 (rQ66_2 C k) = (rJ66_2 C k) := by kernel_rfl
def rS66_6 (C : Nat → List V → H → Rr) (k : Nat) : E → H → Rr := ((Qxr (rJ66_2 C k) (Qxr (rJ66_1 C k) (rQ66 C k))) X.normal)
def rK66_6 (C : Nat → List V → H → Rr) (k : Nat) (x0 x2 x6 x11 : V) (h : H) : Rr := (rB (vPick x6 (.b true) x11) fun v1 => (rK66_2 C k x0 x2 v1 h))
def rJ66_6 (C : Nat → List V → H → Rr) (k : Nat) : E → H → Rr := fun e h => (rK66_6 C k (e 0) (e 2) (e 6) (e 11) h)
theorem rp66_6 (C : Nat → List V → H → Rr) (k : Nat) : dnOps C o66_3 (rS66_6 C k) = (rJ66_6 C k) := by
  refine Eq.trans (rapp_eq rfl rfl) ?_
  kernel_rfl
def rK66 (C : Nat → List V → H → Rr) (k : Nat) (x0 : V) (h : H) : Rr := (rB (some (.p (some (H.nx h, 0)), H.new h ⟨false, [(.i .i64 0), (.i .i64 0), (.i .i64 0), (.i .i64 0), (.i .i64 0), (.i .u32 0), (.i .i64 0), (.b false), (.b false), (.i .i64 0), (.i .u32 0)]⟩)) fun r1 => (rB (vEqz false .p x0 (.p none)) fun v2 => (rG v2 false (rB (vNilc x0) fun v3 => (rB (vFa 2 v3) fun v4 => (rB (vLd1 r1.2 v4) fun v5 => (rB (un .not v5) fun v6 => (rK66_6 C k x0 r1.1 v2 v6 r1.2))))) (rK66_6 C k x0 r1.1 v2 undefV r1.2))))
theorem rp66 (C : Nat → List V → H → Rr) (k : Nat) : dn C k c66 (rQ66 C k) = fun e h => (rK66 C k (e 0) h) := by
  refine Eq.trans (rseq_eq (rseq_eq (rp66_1 C k) (rseq_eq (rp66_2 C k) (rregion_eq (rapp_eq (rgrp_eq2 6 false rfl (rp66_6 C k) rfl) rfl)))) rfl) ?_
  kernel_rfl
def F66 : RF := fun C k a h => match a with
  | [a0] => rK66 C k a0 h
  | _ => none
theorem ro66 : RunOK IP 66 F66 := ⟨ir66, ip66, by kernel_rfl, fun C k a h r e => by
  unfold F66 at e
  split at e
  · exact ⟨by kernel_rfl, (congrFun (congrFun (rp66 C k) _) h).trans e⟩
  · cases e⟩
theorem ip67 : IP 67 = some ir67 := rfl
def rQ67 (C : Nat → List V → H → Rr) (k : Nat) : X → E → H → Rr := Qrr rs67
def rQ67_1 (C : Nat → List V → H → Rr) (k : Nat) : X → E → H → Rr := (rQ67 C k)
def rK67_1 (C : Nat → List V → H → Rr) (k : Nat) (x0 x1 : V) (h : H) : Rr := (rB (vNilc x0) fun v1 => (rB (vFa 1 v1) fun v2 => (rB (vLd1 h v2) fun v3 => (rB (vIa 11 v3 (.i .i64 0)) fun v4 => (rB (vLdA h 11 v4) fun v5 => (rB (vNilc x0) fun v6 => (rB (vFa 1 v6) fun v7 => (rB (vLd1 h v7) fun v8 => (rB (slcut 11 v8 (some (.i .i64 1)) none none) fun v9 => (rK (C 71 [v9] h) fun v10 h11 => (rB (vNilc x0) fun v12 => (rB (vFa 3 v12) fun v13 => (rB (vStore h11 11 v13 v5) fun r14 => (rB (vNilc x0) fun v15 => (rB (vFa 1 v15) fun v16 => (rB (vStore r14.2 1 v16 v10) fun r17 => (rC (stdy false 1 v2 h h11) (rC (stdy true 11 v4 h h11) (rB (vNilc x0) fun v18 => (rB (vFa 2 v18) fun v19 => (rB (vStore r17.2 1 v19 (.b true)) fun r20 => (rB (vBld [(.i .i64 0), (.i .i64 0)] []) fun v21 => (rK (C 117 [x1] r20.2) fun v22 h23 => (rK (C 116 [v21, v22] h23) fun v24 h25 => (rB (vNilc x0) fun v26 => (rB (vFa 14 v26) fun v27 => (rB (vStore h25 2 v27 v24) fun r28 => (some ((.b true), r28.2)))))))))))))))))))))))))))))
def rJ67_1 (C : Nat → List V → H → Rr) (k : Nat) : E → H → Rr := fun e h => (rK67_1 C k (e 0) (e 1) h)
theorem rp67_1 (C : Nat → List V → H → Rr) (k : Nat) : dn C k c67_1 (rQ67_1 C k) = (rJ67_1 C k) := by kernel_rfl
def rQ67_2 (C : Nat → List V → H → Rr) (k : Nat) : X → E → H → Rr := (Qxr (rJ67_1 C k) (rQ67 C k))
def rK67_2 (C : Nat → List V → H → Rr) (k : Nat) (x0 x1 x20 : V) (h : H) : Rr := (rS x20 (some ((.b false), h)) (rK67_1 C k x0 x1 h))
def rJ67_2 (C : Nat → List V → H → Rr) (k : Nat) : E → H → Rr := fun e h => (rK67_2 C k (e 0) (e 1) (e 20) h)
theorem rp67_2 (C : Nat → List V → H → Rr) (k : Nat) : dn C k c67_2 (rQ67_2 C k) = (rJ67_2 C k) := by kernel_rfl
def rS67_8 (C : Nat → List V → H → Rr) (k : Nat) : E → H → Rr := ((Qxr (rJ67_2 C k) (Qxr (rJ67_1 C k) (rQ67 C k))) X.normal)
def rK67_8 (C : Nat → List V → H → Rr) (k : Nat) (x0 x1 x13 x19 : V) (h : H) : Rr := (rB (vPick x13 (.b true) x19) fun v1 => (rK67_2 C k x0 x1 v1 h))
def rJ67_8 (C : Nat → List V → H → Rr) (k : Nat) : E → H → Rr := fun e h => (rK67_8 C k (e 0) (e 1) (e 13) (e 19) h)
theorem rp67_8 (C : Nat → List V → H → Rr) (k : Nat) : dnOps C o67_3 (rS67_8 C k) = (rJ67_8 C k) := by
  refine Eq.trans (rapp_eq rfl rfl) ?_
  kernel_rfl
def rS67_9 (C : Nat → List V → H → Rr) (k : Nat) : E → H → Rr := ((Qxr (rJ67_2 C k) (Qxr (rJ67_1 C k) (rQ67 C k))) X.normal)
def rK67_9 (C : Nat → List V → H → Rr) (k : Nat) (x0 x1 x7 x11 : V) (h : H) : Rr := (rB (vPick x7 (.b true) x11) fun v1 => (rG v1 false (rB (vNilc x0) fun v2 => (rB (vFa 1 v2) fun v3 => (rB (vLd1 h v3) fun v4 => (rB (vLens v4) fun v5 => (rB (bin .eql v5 (.i .i64 0)) fun v6 => (rK67_8 C k x0 x1 v1 v6 h)))))) (rK67_8 C k x0 x1 v1 undefV h)))
def rJ67_9 (C : Nat → List V → H → Rr) (k : Nat) : E → H → Rr := fun e h => (rK67_9 C k (e 0) (e 1) (e 7) (e 11) h)
theorem rp67_9 (C : Nat → List V → H → Rr) (k : Nat) : dnOps C o67_5 (rS67_9 C k) = (rJ67_9 C k) := by
  refine Eq.trans (rapp_eq (rgrp_eq2 13 false rfl (rp67_8 C k) rfl) rfl) ?_
  kernel_rfl
def rK67 (C : Nat → List V → H → Rr) (k : Nat) (x0 x1 : V) (h : H) : Rr := (rB (vEqz false .p x0 (.p none)) fun v1 => (rG v1 false (rB (vNilc x0) fun v2 => (rB (vFa 2 v2) fun v3 => (rB (vLd1 h v3) fun v4 => (rK67_9 C k x0 x1 v1 v4 h)))) (rK67_9 C k x0 x1 v1 undefV h)))
theorem rp67 (C : Nat → List V → H → Rr) (k : Nat) : dn C k c67 (rQ67 C k) = fun e h => (rK67 C k (e 0) (e 1) h) := by
  refine Eq.trans (rseq_eq (rseq_eq (rp67_1 C k) (rseq_eq (rp67_2 C k) (rregion_eq (rapp_eq (rgrp_eq2 7 false rfl (rp67_9 C k) rfl) rfl)))) rfl) ?_
  kernel_rfl
def F67 : RF := fun C k a h => match a with
  | [a0, a1] => rK67 C k a0 a1 h
  | _ => none
theorem ro67 : RunOK IP 67 F67 := ⟨ir67, ip67, by kernel_rfl, fun C k a h r e => by
  unfold F67 at e
  split at e
  · exact ⟨by kernel_rfl, (congrFun (congrFun (rp67 C k) _) h).trans e⟩
  · cases e⟩
theorem ip68 : IP 68 = some ir68 := rfl
def rQ68 (C : Nat → List V → H → Rr) (k : Nat) : X → E → H → Rr := Qrr rs68
def rQ68_1 (C : Nat → List V → H → Rr) (k : Nat) : X → E → H → Rr := (rQ68 C k)
def rQ68_2 (C : Nat → List V → H → Rr) (k : Nat) : X → E → H → Rr := (rQ68_1 C k)
def rK68_2 (C : Nat → List V → H → Rr) (k : Nat) (x2 x6 : V) (h : H) : Rr := (rB (vBld [(.i .i64 0), (.i .i64 0), (.i .i64 0), (.i .i64 0), (.i .i64 0), (.i .u32 0), (.i .i64 0), (.b false), (.b false), (.i .i64 0), (.i .u32 0)] []) fun v1 => (rB (vStore h 11 x6 v1) fun r2 => (rB (vLdA r2.2 11 x6) fun v3 => (some ((.tup [v3, x2, (.b false)]), r2.2)))))
def rJ68_2 (C : Nat → List V → H → Rr) (k : Nat) : E → H → Rr := fun e h => (rK68_2 C k (e 2) (e 6) h)
theorem rp68_2 (C : Nat → List V → H → Rr) (k : Nat) : dn C k c68_2 (rQ68_2 C k) = (rJ68_2 C k) := by kernel_rfl
def rQ68_3 (C : Nat → List V → H → Rr) (k : Nat) : X → E → H → Rr := (Qbr 0 (Qxr (rJ68_2 C k) (rQ68_1 C k)))
def rQ68_4 (C : Nat → List V → H → Rr) (k : Nat) : X → E → H → Rr := (rQ68_3 C k)
def rK68_4 (C : Nat → List V → H → Rr) (k : Nat) (x0 x2 x6 x87 : V) (h : H) : Rr := (rS x87 (rB (vNilc x0) fun v1 => (rB (vFa 14 v1) fun v2 => (rB (vLdA h 2 v2) fun v3 => (rK (C 121 [v3] h) fun v4 h5 => (rB (vExt v4 0) fun v6 => (rB (vExt v4 1) fun v7 => (rB (vExt v4 2) fun v8 => (rB (some (.p (some (H.nx h5, 0)), H.new h5 ⟨false, [(.i .i64 0), (.i .i64 0)]⟩)) fun r9 => (rB (vStore r9.2 2 r9.1 v6) fun r10 => (rB (vLdA r10.2 2 r9.1) fun v11 => (rB (vNilc x0) fun v12 => (rB (vFa 14 v12) fun v13 => (rB (vStore r10.2 2 v13 v11) fun r14 => (rS v8 (rB (vNilc x0) fun v15 => (rB (vFa 3 v15) fun v16 => (rB (vFa 9 v16) fun v17 => (rB (vLd1 r14.2 v17) fun v18 => (rB (vNilc x0) fun v19 => (rB (vFa 3 v19) fun v20 => (rB (vFa 10 v20) fun v21 => (rB (vLd1 r14.2 v21) fun v22 => (rK (C 122 [v18, v22, v7] r14.2) fun v23 h24 => (rK (C 118 [x0, (.i .i64 3), v7, v23] h24) fun v25 h26 => (rB (vStore h26 11 x6 v25) fun r27 => (rB (vLdA r27.2 11 x6) fun v28 => (some ((.tup [v28, x2, (.b true)]), r27.2)))))))))))))) (rK68_2 C k x2 x6 r14.2))))))))))))))) (rK68_2 C k x2 x6 h))
def rJ68_4 (C : Nat → List V → H → Rr) (k : Nat) : E → H → Rr := fun e h => (rK68_4 C k (e 0) (e 2) (e 6) (e 87) h)
theorem rp68_4 (C : Nat → List V → H → Rr) (k : Nat) : dn C k c68_4 (rQ68_4 C k) = (rJ68_4 C k) := by kernel_rfl
def rS68_10 (C : Nat → List V → H → Rr) (k : Nat) : E → H → Rr := ((Qxr (rJ68_4 C k) (rQ68_3 C k)) X.normal)
def rK68_10 (C : Nat → List V → H → Rr) (k : Nat) (x0 x2 x6 x97 x103 : V) (h : H) : Rr := (rB (vPick x97 x103 (.b false)) fun v1 => (rK68_4 C k x0 x2 x6 v1 h))
def rJ68_10 (C : Nat → List V → H → Rr) (k : Nat) : E → H → Rr := fun e h => (rK68_10 C k (e 0) (e 2) (e 6) (e 97) (e 103) h)
theorem rp68_10 (C : Nat → List V → H → Rr) (k : Nat) : dnOps C o68_5 (rS68_10 C k) = (rJ68_10 C k) := by
  refine Eq.trans (rapp_eq rfl rfl) ?_
  kernel_rfl
def rS68_11 (C : Nat → List V → H → Rr) (k : Nat) : E → H → Rr := ((Qxr (rJ68_4 C k) (rQ68_3 C k)) X.normal)
def rK68_11 (C : Nat → List V → H → Rr) (k : Nat) (x0 x2 x6 x90 x95 : V) (h : H) : Rr := (rB (vPick x90 x95 (.b false)) fun v1 => (rG v1 true (rB (vNilc x0) fun v2 => (rB (vFa 14 v2) fun v3 => (rB (vLdA h 2 v3) fun v4 => (rK (C 119 [v4] h) fun v5 h6 => (rB (bin .lss v5 (.i .i64 65535)) fun v7 => (rK68_10 C k x0 x2 x6 v1 v7 h6)))))) (rK68_10 C k x0 x2 x6 v1 undefV h)))
def rJ68_11 (C : Nat → List V → H → Rr) (k : Nat) : E → H → Rr := fun e h => (rK68_11 C k (e 0) (e 2) (e 6) (e 90) (e 95) h)
theorem rp68_11 (C : Nat → List V → H → Rr) (k : Nat) : dnOps C o68_7 (rS68_11 C k) = (rJ68_11 C k) := by
  refine Eq.trans (rapp_eq (rgrp_eq2 97 true rfl (rp68_10 C k) rfl) rfl) ?_
  kernel_rfl
def rK68_3 (C : Nat → List V → H → Rr) (k : Nat) (x0 x1 x2 x6 x35 : V) (h : H) : Rr := (rS x35 (rB (vNilc x0) fun v1 => (rB (vFa 2 v1) fun v2 => (rB (vStore h 1 v2 (.b false)) fun r3 => (rB (vNilc x0) fun v4 => (rB (vFa 14 v4) fun v5 => (rB (vLdA r3.2 2 v5) fun v6 => (rK (C 119 [v6] r3.2) fun v7 h8 => (rK (C 118 [x0, (.i .i64 4), v7, (.i .u32 0)] h8) fun v9 h10 => (rB (vStore h10 11 x6 v9) fun r11 => (rB (vLdA r11.2 11 x6) fun v12 => (some ((.tup [v12, x2, (.b true)]), r11.2)))))))))))) (rB (bin .eql x1 (.i .i64 1)) fun v13 => (rS v13 (rB (vNilc x0) fun v14 => (rB (vFa 3 v14) fun v15 => (rB (vFa 9 v15) fun v16 => (rB (vLd1 h v16) fun v17 => (rB (vNilc x0) fun v18 => (rB (vFa 3 v18) fun v19 => (rB (vFa 10 v19) fun v20 => (rB (vLd1 h v20) fun v21 => (rK (C 120 [v17, v21, x2] h) fun v22 h23 => (rB (vExt v22 0) fun v24 => (rB (vExt v22 1) fun v25 => (rB (vExt v22 2) fun v26 => (rB (vNilc x0) fun v27 => (rB (vFa 2 v27) fun v28 => (rB (vStore h23 1 v28 (.b false)) fun r29 => (rB (un .not v26) fun v30 => (rS v30 (rK (C 118 [x0, (.i .i64 7), (.i .i64 0), (.i .u32 1)] r29.2) fun v31 h32 => (rB (vStore h32 11 x6 v31) fun r33 => (rB (vLdA r33.2 11 x6) fun v34 => (some ((.tup [v34, x2, (.b true)]), r33.2))))) (rK (C 118 [x0, (.i .i64 2), (.i .i64 0), v24] r29.2) fun v35 h36 => (rB (vStore h36 11 x6 v35) fun r37 => (rB (vLdA r37.2 11 x6) fun v38 => (some ((.tup [v38, v25, (.b true)]), r37.2)))))))))))))))))))))) (rB (bin .eql x1 (.i .i64 3)) fun v39 => (rG v39 true (rB (vNilc x0) fun v40 => (rB (vFa 3 v40) fun v41 => (rB (vFa 8 v41) fun v42 => (rB (vLd1 h v42) fun v43 => (rK68_11 C k x0 x2 x6 v39 v43 h))))) (rK68_11 C k x0 x2 x6 v39 undefV h))))))
def rJ68_3 (C : Nat → List V → H → Rr) (k : Nat) : E → H → Rr := fun e h => (rK68_3 C k (e 0) (e 1) (e 2) (e 6) (e 35) h)
theorem rp68_3 (C : Nat → List V → H → Rr) (k : Nat) : dn C k c68_3 (rQ68_3 C k) = (rJ68_3 C k) := by
  refine Eq.trans (rcond_eq rfl (rseq_eq (rcond_eq rfl (rseq_eq (rp68_4 C k) (rregion_eq (rapp_eq (rgrp_eq2 90 true rfl (rp68_11 C k) rfl) rfl)))) rfl)) ?_
  kernel_rfl
def rS68_15 (C : Nat → List V → H → Rr) (k : Nat) : E → H → Rr := ((Qxr (rJ68_3 C k) (Qbr 0 (Qxr (rJ68_2 C k) (rQ68_1 C k)))) X.normal)
def rK68_15 (C : Nat → List V → H → Rr) (k : Nat) (x0 x1 x2 x6 x38 x43 : V) (h : H) : Rr := (rB (vPick x38 x43 (.b false)) fun v1 => (rK68_3 C k x0 x1 x2 x6 v1 h))
def rJ68_15 (C : Nat → List V → H → Rr) (k : Nat) : E → H → Rr := fun e h => (rK68_15 C k (e 0) (e 1) (e 2) (e 6) (e 38) (e 43) h)
theorem rp68_15 (C : Nat → List V → H → Rr) (k : Nat) : dnOps C o68_12 (rS68_15 C k) = (rJ68_15 C k) := by
  refine Eq.trans (rapp_eq rfl rfl) ?_
  kernel_rfl
def rK68_1 (C : Nat → List V → H → Rr) (k : Nat) (x0 x1 x2 x6 : V) (h : H) : Rr := (rB (bin .eql x1 (.i .i64 2)) fun v1 => (rS v1 (rB (vNilc x0) fun v2 => (rB (vFa 2 v2) fun v3 => (rB (vStore h 1 v3 (.b false)) fun r4 => (rK (C 118 [x0, (.i .i64 7), (.i .i64 0), (.i .u32 1)] r4.2) fun v5 h6 => (rB (vStore h6 11 x6 v5) fun r7 => (rB (vLdA r7.2 11 x6) fun v8 => (some ((.tup [v8, x2, (.b true)]), r7.2)))))))) (rB (bin .eql x1 (.i .i64 1)) fun v9 => (rG v9 true (rB (vNilc x0) fun v10 => (rB (vFa 3 v10) fun v11 => (rB (vFa 8 v11) fun v12 => (rB (vLd1 h v12) fun v13 => (rK68_15 C k x0 x1 x2 x6 v9 v13 h))))) (rK68_15 C k x0 x1 x2 x6 v9 undefV h)))))
def rJ68_1 (C : Nat → List V → H → Rr) (k : Nat) : E → H → Rr := fun e h => (rK68_1 C k (e 0) (e 1) (e 2) (e 6) h)
theorem rp68_1 (C : Nat → List V → H → Rr) (k : Nat) : dn C k c68_1 (rQ68_1 C k) = (rJ68_1 C k) := by
  refine Eq.trans (rseq_eq (rp68_2 C k) (rblock_eq (rseq_eq (rcond_eq rfl (rseq_eq (rp68_3 C k) (rregion_eq (rapp_eq (rgrp_eq2 38 true rfl (rp68_15 C k) rfl) rfl)))) rfl))) ?_
  kernel_rfl
def rQ68_16 (C : Nat → List V → H → Rr) (k : Nat) : X → E → H → Rr := (Qxr (rJ68_1 C k) (rQ68 C k))
def rK68_16 (C : Nat → List V → H → Rr) (k : Nat) (x0 x1 x2 x6 x23 : V) (h : H) : Rr := (rS x23 (rB (vBld [(.i .i64 0), (.i .i64 0), (.i .i64 0), (.i .i64 0), (.i .i64 0), (.i .u32 0), (.i .i64 0), (.b false), (.b false), (.i .i64 0), (.i .u32 0)] []) fun v1 => (rB (vStore h 11 x6 v1) fun r2 => (rB (vLdA r2.2 11 x6) fun v3 => (some ((.tup [v3, x2, (.b false)]), r2.2))))) (rK68_1 C k x0 x1 x2 x6 h))
def rJ68_16 (C : Nat → List V → H → Rr) (k : Nat) : E → H → Rr := fun e h => (rK68_16 C k (e 0) (e 1) (e 2) (e 6) (e 23) h)
theorem rp68_16 (C : Nat → List V → H → Rr) (k : Nat) : dn C k c68_16 (rQ68_16 C k) = (rJ68_16 C k) := by kernel_rfl
def rS68_20 (C : Nat → List V → H → Rr) (k : Nat) : E → H → Rr := ((Qxr (rJ68_16 C k) (Qxr (rJ68_1 C k) (rQ68 C k))) X.normal)
def rK68_20 (C : Nat → List V → H → Rr) (k : Nat) (x0 x1 x2 x6 x17 x22 : V) (h : H) : Rr := (rB (vPick x17 (.b true) x22) fun v1 => (rK68_16 C k x0 x1 x2 x6 v1 h))
def rJ68_20 (C : Nat → List V → H → Rr) (k : Nat) : E → H → Rr := fun e h => (rK68_20 C k (e 0) (e 1) (e 2) (e 6) (e 17) (e 22) h)
theorem rp68_20 (C : Nat → List V → H → Rr) (k : Nat) : dnOps C o68_17 (rS68_20 C k) = (rJ68_20 C k) := by
  refine Eq.trans (rapp_eq rfl rfl) ?_
  kernel_rfl
def rK68 (C : Nat → List V → H → Rr) (k : Nat) (x0 x1 x2 : V) (h : H) : Rr := (rB (some (.p (some (H.nx h, 0)), H.new h ⟨false, [(.i .i64 0), (.i .i64 0), (.i .i64 0), (.i .i64 0), (.i .i64 0), (.i .u32 0), (.i .i64 0), (.b false), (.b false), (.i .i64 0), (.i .u32 0)]⟩)) fun r1 => (rB (vEqz false .p x0 (.p none)) fun v2 => (rG v2 false (rB (vNilc x0) fun v3 => (rB (vFa 2 v3) fun v4 => (rB (vLd1 r1.2 v4) fun v5 => (rB (un .not v5) fun v6 => (rK68_20 C k x0 x1 x2 r1.1 v2 v6 r1.2))))) (rK68_20 C k x0 x1 x2 r1.1 v2 undefV r1.2))))
theorem rp68 (C : Nat → List V → H → Rr) (k : Nat) : dn C k c68 (rQ68 C k) = fun e h => (rK68 C k (e 0) (e 1) (e 2) h) := by
  refine Eq.trans (rseq_eq (rseq_eq (rp68_1 C k) (rseq_eq (rp68_16 C k) (rregion_eq (rapp_eq (rgrp_eq2 17 false rfl (rp68_20 C k) rfl) rfl)))) rfl) ?_
  kernel_rfl
def F68 : RF := fun C k a h => match a with
  | [a0, a1, a2] => rK68 C k a0 a1 a2 h
  | _ => none
theorem ro68 : RunOK IP 68 F68 := ⟨ir68, ip68, by kernel_rfl, fun C k a h r e => by
  unfold F68 at e
  split at e
  · exact ⟨by kernel_rfl, (congrFun (congrFun (rp68 C k) _) h).trans e⟩
  · cases e⟩
theorem ip69 : IP 69 = some ir69 := rfl
def rQ69 (C : Nat → List V → H → Rr) (k : Nat) : X → E → H → Rr := Qrr rs69
def rQ69_1 (C : Nat → List V → H → Rr) (k : Nat) : X → E → H → Rr := (Qbr 0 (rQ69 C k))
def rK69_1 (C : Nat → List V → H → Rr) (k : Nat) (x0 x3 x16 : V) (h : H) : Rr := (rS x16 (rB (vNilc x0) fun v1 => (rB (vFa 5 v1) fun v2 => (rB (vLd1 h v2) fun v3 => (rB (vLdA h 11 x3) fun v4 => (rB (vFa 10 x3) fun v5 => (rB (vLd1 h v5) fun v6 => (rK (C 123 [v3, v4, (.b false), v6] h) fun v7 h8 => (some ((.tup []), h8))))))))) (some ((.tup []), h)))
def rJ69_1 (C : Nat → List V → H → Rr) (k : Nat) : E → H → Rr := fun e h => (rK69_1 C k (e 0) (e 3) (e 16) h)
theorem rp69_1 (C : Nat → List V → H → Rr) (k : Nat) : dn C k c69_1 (rQ69_1 C k) = (rJ69_1 C k) := by kernel_rfl
def rK69 (C : Nat → List V → H → Rr) (k : Nat) (x0 x1 : V) (h : H) : Rr := (rB (vBox x1 h) fun r1 => (rB (vFa 0 r1.1) fun v2 => (rB (vLd1 r1.2 v2) fun v3 => (rB (bin .eql v3 (.i .i64 2)) fun v4 => (rS v4 (rB (vNilc x0) fun v5 => (rB (vFa 5 v5) fun v6 => (rB (vLd1 r1.2 v6) fun v7 => (rB (vLdA r1.2 11 r1.1) fun v8 => (rB (vFa 10 r1.1) fun v9 => (rB (vLd1 r1.2 v9) fun v10 => (rK (C 123 [v7, v8, (.b true), v10] r1.2) fun v11 h12 => (some ((.tup []), h12))))))))) (rB (bin .eql v3 (.i .i64 7)) fun v13 => (rS v13 (rK69_1 C k x0 r1.1 v13 r1.2) (rB (bin .eql v3 (.i .i64 4)) fun v14 => (rK69_1 C k x0 r1.1 v14 r1.2)))))))))
theorem rp69 (C : Nat → List V → H → Rr) (k : Nat) : dn C k c69 (rQ69 C k) = fun e h => (rK69 C k (e 0) (e 1) h) := by
  refine Eq.trans (rseq_eq (rseq_eq (rblock_eq (rseq_eq (rcond_eq rfl (rseq_eq (rp69_1 C k) rfl)) rfl)) rfl) rfl) ?_
  kernel_rfl
def F69 : RF := fun C k a h => match a with
  | [a0, a1] => rK69 C k a0 a1 h
  | _ => none
theorem ro69 : RunOK IP 69 F69 := ⟨ir69, ip69, by kernel_rfl, fun C k a h r e => by
  unfold F69 at e
  split at e
  · exact ⟨by kernel_rfl, (congrFun (congrFun (rp69 C k) _) h).trans e⟩
  · cases e⟩
theorem ip70 : IP 70 = some ir70 := rfl
def rQ70 (C : Nat → List V → H → Rr) (k : Nat) : X → E → H → Rr := Qrr rs70
def rQ70_1 (C : Nat → List V → H → Rr) (k : Nat) : X → E → H → Rr := (rQ70 C k)
def rK70_1 (C : Nat → List V → H → Rr) (k : Nat) (x0 x3 : V) (h : H) : Rr := (rB (vFa 1 x3) fun v1 => (rB (vLd1 h v1) fun v2 => (rB (vFa 1 x3) fun v3 => (rB (vLd1 h v3) fun v4 => (rB (vNilc x0) fun v5 => (rB (vFa 7 v5) fun v6 => (rB (vIaa 1 4 v6 v4) fun v7 => (rB (vLd1 h v7) fun v8 => (rB (vLdA h 11 x3) fun v9 => (rB (vNewSl 1 [(.i .i64 0), (.i .i64 0), (.i .i64 0), (.i .i64 0), (.i .i64 0), (.i .u32 0), (.i .i64 0), (.b false), (.b false), (.i .i64 0), (.i .u32 0)] [(0, 11, v9)] h) fun r10 => (rB (vApp 11 80 v8 r10.1 r10.2) fun r11 => (rB (vNilc x0) fun v12 => (rB (vFa 7 v12) fun v13 => (rB (vIaa 1 4 v13 v2) fun v14 => (rB (vStore r11.2 1 v14 r11.1) fun r15 => (rC (stdy false 1 v1 r10.2 r11.2) (some ((.b true), r15.2))))))))))))))))))
def rJ70_1 (C : Nat → List V → H → Rr) (k : Nat) : E → H → Rr := fun e h => (rK70_1 C k (e 0) (e 3) h)
theorem rp70_1 (C : Nat → List V → H → Rr) (k : Nat) : dn C k c70_1 (rQ70_1 C k) = (rJ70_1 C k) := by kernel_rfl
def rQ70_2 (C : Nat → List V → H → Rr) (k : Nat) : X → E → H → Rr := (Qxr (rJ70_1 C k) (rQ70 C k))
def rK70_2 (C : Nat → List V → H → Rr) (k : Nat) (x0 x3 x19 : V) (h : H) : Rr := (rS x19 (some ((.b false), h)) (rK70_1 C k x0 x3 h))
def rJ70_2 (C : Nat → List V → H → Rr) (k : Nat) : E → H → Rr := fun e h => (rK70_2 C k (e 0) (e 3) (e 19) h)
theorem rp70_2 (C : Nat → List V → H → Rr) (k : Nat) : dn C k c70_2 (rQ70_2 C k) = (rJ70_2 C k) := by kernel_rfl
def rS70_6 (C : Nat → List V → H → Rr) (k : Nat) : E → H → Rr := ((Qxr (rJ70_2 C k) (Qxr (rJ70_1 C k) (rQ70 C k))) X.normal)
def rK70_6 (C : Nat → List V → H → Rr) (k : Nat) (x0 x3 x9 x18 : V) (h : H) : Rr := (rB (vPick x9 (.b true) x18) fun v1 => (rK70_2 C k x0 x3 v1 h))
def rJ70_6 (C : Nat → List V → H → Rr) (k : Nat) : E → H → Rr := fun e h => (rK70_6 C k (e 0) (e 3) (e 9) (e 18) h)
theorem rp70_6 (C : Nat → List V → H → Rr) (k : Nat) : dnOps C o70_3 (rS70_6 C k) = (rJ70_6 C k) := by
  refine Eq.trans (rapp_eq rfl rfl) ?_
  kernel_rfl
def rK70 (C : Nat → List V → H → Rr) (k : Nat) (x0 x1 : V) (h : H) : Rr := (rB (vBox x1 h) fun r1 => (rB (vFa 1 r1.1) fun v2 => (rB (vLd1 r1.2 v2) fun v3 => (rK (C 65 [v3] r1.2) fun v4 h5 => (rB (un .not v4) fun v6 => (rG v6 false (rB (vFa 1 r1.1) fun v7 => (rB (vLd1 h5 v7) fun v8 => (rB (vNilc x0) fun v9 => (rB (vFa 7 v9) fun v10 => (rB (vIaa 1 4 v10 v8) fun v11 => (rB (vLd1 h5 v11) fun v12 => (rB (vLens v12) fun v13 => (rB (bin .geq v13 (.i .i64 32)) fun v14 => (rK70_6 C k x0 r1.1 v6 v14 h5))))))))) (rK70_6 C k x0 r1.1 v6 undefV h5)))))))
theorem rp70 (C : Nat → List V → H → Rr) (k : Nat) : dn C k c70 (rQ70 C k) = fun e h => (rK70 C k (e 0) (e 1) h) := by
  refine Eq.trans (rseq_eq (rseq_eq (rp70_1 C k) (rseq_eq (rp70_2 C k) (rdraw0_eq (rapp_eq (rgrp_eq2 9 false rfl (rp70_6 C k) rfl) rfl)))) rfl) ?_
  kernel_rfl
def F70 : RF := fun C k a h => match a with
  | [a0, a1] => rK70 C k a0 a1 h
  | _ => none
theorem ro70 : RunOK IP 70 F70 := ⟨ir70, ip70, by kernel_rfl, fun C k a h r e => by
  unfold F70 at e
  split at e
  · exact ⟨by kernel_rfl, (congrFun (congrFun (rp70 C k) _) h).trans e⟩
  · cases e⟩
theorem ip71 : IP 71 = some ir71 := rfl
def rQ71 (C : Nat → List V → H → Rr) (k : Nat) : X → E → H → Rr := Qrr rs71
def rK71 (C : Nat → List V → H → Rr) (k : Nat) (x0 : V) (h : H) : Rr := (rB (vEqz false .s x0 V.nsl) fun v1 => (rS v1 (some (V.nsl, h)) (rB (vNewSl 0 [] [] h) fun r2 => (rB (vApp 11 80 r2.1 x0 r2.2) fun r3 => (some (r3.1, r3.2))))))
theorem rp71 (C : Nat → List V → H → Rr) (k : Nat) : dn C k c71 (rQ71 C k) = fun e h => (rK71 C k (e 0) h) := by kernel_rfl
def F71 : RF := fun C k a h => match a with
  | [a0] => rK71 C k a0 h
  | _ => none
theorem ro71 : RunOK IP 71 F71 := ⟨ir71, ip71, by kernel_rfl, fun C k a h r e => by
  unfold F71 at e
  split at e
  · exact ⟨by kernel_rfl, (congrFun (congrFun (rp71 C k) _) h).trans e⟩
  · cases e⟩
theorem ip72 : IP 72 = some ir72 := rfl
def rQ72 (C : Nat → List V → H → Rr) (k : Nat) : X → E → H → Rr := Qrr rs72
def rK72 (C : Nat → List V → H → Rr) (k : Nat) (x0 x1 : V) (h : H) : Rr := (rB (vBox x0 h) fun r1 => (rB (some (.p (some (H.nx r1.2, 0)), H.new r1.2 ⟨false, [(.i .i64 0), (.i .i64 0), (.i .u64 0), (.i .u64 0), (.i .u64 0), (.i .u64 0), (.i .i64 0), (.b false)]⟩)) fun r2 => (rB (vLdA r2.2 2 r1.1) fun v3 => (rB (vBld [(.i .i64 0), (.i .i64 0), (.i .u64 0), (.i .u64 0), (.i .u64 0), (.i .u64 0), (.i .i64 0), (.b false)] [(0, 2, v3), (2, 1, x1)]) fun v4 => (rB (vStore r2.2 8 r2.1 v4) fun r5 => (rB (vLdA r5.2 8 r2.1) fun v6 => (some (v6, r5.2))))))))
theorem rp72 (C : Nat → List V → H → Rr) (k : Nat) : dn C k c72 (rQ72 C k) = fun e h => (rK72 C k (e 0) (e 1) h) := by kernel_rfl
def F72 : RF := fun C k a h => match a with
  | [a0, a1] => rK72 C k a0 a1 h
  | _ => none
theorem ro72 : RunOK IP 72 F72 := ⟨ir72, ip72, by kernel_rfl, fun C k a h r e => by
  unfold F72 at e
  split at e
  · exact ⟨by kernel_rfl, (congrFun (congrFun (rp72 C k) _) h).trans e⟩
  · cases e⟩
theorem ip73 : IP 73 = some ir73 := rfl
def rQ73 (C : Nat → List V → H → Rr) (k : Nat) : X → E → H → Rr := Qrr rs73
def rQ73_1 (C : Nat → List V → H → Rr) (k : Nat) : X → E → H → Rr := (rQ73 C k)
def rK73_1 (C : Nat → List V → H → Rr) (k : Nat) (x2 x4 : V) (h : H) : Rr := (rB (vLdA h 8 x2) fun v1 => (rB (vStore h 8 x4 v1) fun r2 => (rB (vLdA r2.2 8 x4) fun v3 => (some (v3, r2.2)))))
def rJ73_1 (C : Nat → List V → H → Rr) (k : Nat) : E → H → Rr := fun e h => (rK73_1 C k (e 2) (e 4) h)
theorem rp73_1 (C : Nat → List V → H → Rr) (k : Nat) : dn C k c73_1 (rQ73_1 C k) = (rJ73_1 C k) := by kernel_rfl
def rK73 (C : Nat → List V → H → Rr) (k : Nat) (x0 x1 : V) (h : H) : Rr := (rB (vBox x0 h) fun r1 => (rB (some (.p (some (H.nx r1.2, 0)), H.new r1.2 ⟨false, [(.i .i64 0), (.i .i64 0), (.i .u64 0), (.i .u64 0), (.i .u64 0), (.i .u64 0), (.i .i64 0), (.b false)]⟩)) fun r2 => (rB (vLdA r2.2 8 r1.1) fun v3 => (rK (C 74 [v3] r2.2) fun v4 h5 => (rB (vExt v4 0) fun v6 => (rB (vExt v4 1) fun v7 => (rS v7 (rB (vLdA h5 8 r1.1) fun v8 => (rB (vStore h5 8 r2.1 v8) fun r9 => (rB (vLdA r9.2 8 r2.1) fun v10 => (some (v10, r9.2))))) (rB (vFa 0 r1.1) fun v11 => (rB (vLdA h5 2 v11) fun v12 => (rK (C 103 [v12] h5) fun v13 h14 => (rB (un .not v13) fun v15 => (rS v15 (rB (vFa 7 r1.1) fun v16 => (rB (vStore h14 1 v16 (.b true)) fun r17 => (rB (vLdA r17.2 8 r1.1) fun v18 => (rB (vStore r17.2 8 r2.1 v18) fun r19 => (rB (vLdA r19.2 8 r2.1) fun v20 => (some (v20, r19.2))))))) (rB (vFa 6 r1.1) fun v21 => (rB (vLd1 h14 v21) fun v22 => (rB (bin .eql v22 (.i .i64 0)) fun v23 => (rS v23 (rB (vFa 0 r1.1) fun v24 => (rB (vLdA h14 2 v24) fun v25 => (rB (vFa 2 r1.1) fun v26 => (rB (vLd1 h14 v26) fun v27 => (rK (C 113 [v25, v27] h14) fun v28 h29 => (rK (C 110 [x1, v28] h29) fun v30 h31 => (rB (vFa 2 r1.1) fun v32 => (rB (vLd1 h31 v32) fun v33 => (rB (bin .add v33 (.i .u64 1)) fun v34 => (rB (bin .eql v30 v34) fun v35 => (rC (stdy false 1 v32 h14 h29) (rC (stdy false 1 v32 h29 h31) (rS v35 (rB (vFa 6 r1.1) fun v36 => (rB (vStore h31 1 v36 (.i .i64 1)) fun r37 => (rK73_1 C k r1.1 r2.1 r37.2))) (rB (vFa 7 r1.1) fun v38 => (rB (vStore h31 1 v38 (.b true)) fun r39 => (rK73_1 C k r1.1 r2.1 r39.2)))))))))))))))) (rB (bin .eql v22 (.i .i64 4)) fun v40 => (rS v40 (rB (vFa 0 r1.1) fun v41 => (rB (vLdA h14 2 v41) fun v42 => (rB (vFa 2 r1.1) fun v43 => (rB (vLd1 h14 v43) fun v44 => (rK (C 113 [v42, v44] h14) fun v45 h46 => (rB (vFa 2 r1.1) fun v47 => (rB (vLd1 h46 v47) fun v48 => (rB (vFa 0 r1.1) fun v49 => (rB (vFa 1 v49) fun v50 => (rB (vLd1 h46 v50) fun v51 => (rB (vCvi .u64 v51) fun v52 => (rB (bin .add v48 v52) fun v53 => (rK (C 85 [x1, v45, v53] h46) fun v54 h55 => (rC (stdy false 1 v47 h14 h46) (rC (stdy false 1 v50 h14 h46) (rB (vFa 6 r1.1) fun v56 => (rB (vStore h55 1 v56 (.i .i64 5)) fun r57 => (rK73_1 C k r1.1 r2.1 r57.2)))))))))))))))))) (rB (vFa 6 r1.1) fun v58 => (rB (vLd1 h14 v58) fun v59 => (rB (bin .sub v59 (.i .i64 1)) fun v60 => (rB (vFa 0 r1.1) fun v61 => (rB (vLdA h14 2 v61) fun v62 => (rB (vFa 2 r1.1) fun v63 => (rB (vLd1 h14 v63) fun v64 => (rK (C 115 [v62, v64, v60] h14) fun v65 h66 => (rK (C 110 [x1, v65] h66) fun v67 h68 => (rB (vFa 3 r1.1) fun v69 => (rB (vIaa 1 3 v69 v60) fun v70 => (rB (vStore h68 1 v70 v67) fun r71 => (rB (vFa 6 r1.1) fun v72 => (rB (vLd1 r71.2 v72) fun v73 => (rB (bin .add v73 (.i .i64 1)) fun v74 => (rB (vFa 6 r1.1) fun v75 => (rB (vStore r71.2 1 v75 v74) fun r76 => (rK73_1 C k r1.1 r2.1 r76.2))))))))))))))))))))))))))))))))))))
theorem rp73 (C : Nat → List V → H → Rr) (k : Nat) : dn C k c73 (rQ73 C k) = fun e h => (rK73 C k (e 0) (e 1) h) := by
  refine Eq.trans (rseq_eq (rseq_eq (rseq_eq (rseq_eq (rp73_1 C k) rfl) rfl) rfl) rfl) ?_
  kernel_rfl
def F73 : RF := fun C k a h => match a with
  | [a0, a1] => rK73 C k a0 a1 h
  | _ => none
theorem ro73 : RunOK IP 73 F73 := ⟨ir73, ip73, by kernel_rfl, fun C k a h r e => by
  unfold F73 at e
  split at e
  · exact ⟨by kernel_rfl, (congrFun (congrFun (rp73 C k) _) h).trans e⟩
  · cases e⟩
theorem ip74 : IP 74 = some ir74 := rfl
def rQ74 (C : Nat → List V → H → Rr) (k : Nat) : X → E → H → Rr := Qrr rs74
def rK74 (C : Nat → List V → H → Rr) (k : Nat) (x0 : V) (h : H) : Rr := (rB (vBox x0 h) fun r1 => (rB (vFa 7 r1.1) fun v2 => (rB (vLd1 r1.2 v2) fun v3 => (rS v3 (some ((.tup [(.i .i64 4), (.b true)]), r1.2)) (rB (vFa 6 r1.1) fun v4 => (rB (vLd1 r1.2 v4) fun v5 => (rB (bin .eql v5 (.i .i64 5)) fun v6 => (rS v6 (some ((.tup [(.i .i64 0), (.b true)]), r1.2)) (some ((.tup [(.i .i64 0), (.b false)]), r1.2))))))))))
theorem rp74 (C : Nat → List V → H → Rr) (k : Nat) : dn C k c74 (rQ74 C k) = fun e h => (rK74 C k (e 0) h) := by kernel_rfl
def F74 : RF := fun C k a h => match a with
  | [a0] => rK74 C k a0 h
  | _ => none
theorem ro74 : RunOK IP 74 F74 := ⟨ir74, ip74, by kernel_rfl, fun C k a h r e => by
  unfold F74 at e
  split at e
  · exact ⟨by kernel_rfl, (congrFun (congrFun (rp74 C k) _) h).trans e⟩
  · cases e⟩
theorem ip75 : IP 75 = some ir75 := rfl
def rQ75 (C : Nat → List V → H → Rr) (k : Nat) : X → E → H → Rr := Qrr rs75
def rQ75_1 (C : Nat → List V → H → Rr) (k : Nat) : X → E → H → Rr := (rQ75 C k)
def rK75_1 (C : Nat → List V → H → Rr) (k : Nat) (x2 x5 : V) (h : H) : Rr := (rB (vLdA h 11 x5) fun v1 => (rB (vStore h 11 x2 v1) fun r2 => (rB (vLdA r2.2 11 x2) fun v3 => (some ((.tup [v3, (.i .i64 0)]), r2.2)))))
def rJ75_1 (C : Nat → List V → H → Rr) (k : Nat) : E → H → Rr := fun e h => (rK75_1 C k (e 2) (e 5) h)
theorem rp75_1 (C : Nat → List V → H → Rr) (k : Nat) : dn C k c75_1 (rQ75_1 C k) = (rJ75_1 C k) := by kernel_rfl
def rQ75_2 (C : Nat → List V → H → Rr) (k : Nat) : X → E → H → Rr := (Qxr (rJ75_1 C k) (rQ75 C k))
def rK75_2 (C : Nat → List V → H → Rr) (k : Nat) (x2 x5 x105 : V) (h : H) : Rr := (rS x105 (rB (vBld [(.i .i64 0), (.i .i64 0), (.i .i64 0), (.i .i64 0), (.i .i64 0), (.i .u32 0), (.i .i64 0), (.b false), (.b false), (.i .i64 0), (.i .u32 0)] []) fun v1 => (rB (vStore h 11 x2 v1) fun r2 => (rB (vLdA r2.2 11 x2) fun v3 => (some ((.tup [v3, (.i .i64 2)]), r2.2))))) (rK75_1 C k x2 x5 h))
def rJ75_2 (C : Nat → List V → H → Rr) (k : Nat) : E → H → Rr := fun e h => (rK75_2 C k (e 2) (e 5) (e 105) h)
theorem rp75_2 (C : Nat → List V → H → Rr) (k : Nat) : dn C k c75_2 (rQ75_2 C k) = (rJ75_2 C k) := by kernel_rfl
def rS75_8 (C : Nat → List V → H → Rr) (k : Nat) : E → H → Rr := ((Qxr (rJ75_2 C k) (Qxr (rJ75_1 C k) (rQ75 C k))) X.normal)
def rK75_8 (C : Nat → List V → H → Rr) (k : Nat) (x2 x5 x101 x104 : V) (h : H) : Rr := (rB (vPick x101 (.b true) x104) fun v1 => (rK75_2 C k x2 x5 v1 h))
def rJ75_8 (C : Nat → List V → H → Rr) (k : Nat) : E → H → Rr := fun e h => (rK75_8 C k (e 2) (e 5) (e 101) (e 104) h)
theorem rp75_8 (C : Nat → List V → H → Rr) (k : Nat) : dnOps C o75_3 (rS75_8 C k) = (rJ75_8 C k) := by
  refine Eq.trans (rapp_eq rfl rfl) ?_
  kernel_rfl
def rS75_9 (C : Nat → List V → H → Rr) (k : Nat) : E → H → Rr := ((Qxr (rJ75_2 C k) (Qxr (rJ75_1 C k) (rQ75 C k))) X.normal)
def rK75_9 (C : Nat → List V → H → Rr) (k : Nat) (x2 x5 x93 x99 : V) (h : H) : Rr := (rB (vPick x93 (.b true) x99) fun v1 => (rG v1 false (rB (vLdA h 11 x5) fun v2 => (rK (C 107 [v2] h) fun v3 h4 => (rB (un .not v3) fun v5 => (rK75_8 C k x2 x5 v1 v5 h4)))) (rK75_8 C k x2 x5 v1 undefV h)))
def rJ75_9 (C : Nat → List V → H → Rr) (k : Nat) : E → H → Rr := fun e h => (rK75_9 C k (e 2) (e 5) (e 93) (e 99) h)
theorem rp75_9 (C : Nat → List V → H → Rr) (k : Nat) : dnOps C o75_5 (rS75_9 C k) = (rJ75_9 C k) := by
  refine Eq.trans (rapp_eq (rgrp_eq2 101 false rfl (rp75_8 C k) rfl) rfl) ?_
  kernel_rfl
def rK75 (C : Nat → List V → H → Rr) (k : Nat) (x0 : V) (h : H) : Rr := (rB (vBox x0 h) fun r1 => (rB (some (.p (some (H.nx r1.2, 0)), H.new r1.2 ⟨false, [(.i .i64 0), (.i .i64 0), (.i .i64 0), (.i .i64 0), (.i .i64 0), (.i .u32 0), (.i .i64 0), (.b false), (.b false), (.i .i64 0), (.i .u32 0)]⟩)) fun r2 => (rB (vLdA r2.2 2 (.p (some (5, 0)))) fun v3 => (rB (vIaa 1 3 r1.1 (.i .i64 0)) fun v4 => (rB (vLd1 r2.2 v4) fun v5 => (rK (rV C (.fn 124 []) [v3, v5] r2.2) fun v6 h7 => (rB (bin .eql v6 (.i .u64 1)) fun v8 => (rB (vLdA h7 2 (.p (some (6, 0)))) fun v9 => (rB (vIaa 1 3 r1.1 (.i .i64 0)) fun v10 => (rB (vLd1 h7 v10) fun v11 => (rK (rV C (.fn 124 []) [v9, v11] h7) fun v12 h13 => (rB (bin .eql v12 (.i .u64 1)) fun v14 => (rB (vLdA h13 2 (.p (some (9, 0)))) fun v15 => (rB (vIaa 1 3 r1.1 (.i .i64 1)) fun v16 => (rB (vLd1 h13 v16) fun v17 => (rK (rV C (.fn 124 []) [v15, v17] h13) fun v18 h19 => (rB (vCvi .u32 v18) fun v20 => (rB (vLdA h19 2 (.p (some (8, 0)))) fun v21 => (rB (vIaa 1 3 r1.1 (.i .i64 1)) fun v22 => (rB (vLd1 h19 v22) fun v23 => (rK (rV C (.fn 124 []) [v21, v23] h19) fun v24 h25 => (rB (vCvi .u32 v24) fun v26 => (rB (vBld [(.i .i64 0), (.i .i64 0), (.i .i64 0), (.i .i64 0), (.i .i64 0), (.i .u32 0), (.i .i64 0), (.b false), (.b false), (.i .i64 0), (.i .u32 0)] [(7, 1, v8), (8, 1, v14), (5, 1, v20), (10, 1, v26)]) fun v27 => (rB (some (.p (some (H.nx h25, 0)), H.new h25 ⟨false, [(.i .i64 0), (.i .i64 0), (.i .i64 0), (.i .i64 0), (.i .i64 0), (.i .u32 0), (.i .i64 0), (.b false), (.b false), (.i .i64 0), (.i .u32 0)]⟩)) fun r28 => (rB (vStore r28.2 11 r28.1 v27) fun r29 => (rC (stdy true 2 (.p (some (6, 0))) r2.2 h7) (rC (stdy false 1 v10 r2.2 h7) (rC (stdy true 2 (.p (some (9, 0))) r2.2 h7) (rC (stdy true 2 (.p (some (9, 0))) h7 h13) (rC (stdy false 1 v16 r2.2 h7) (rC (stdy false 1 v16 h7 h13) (rC (stdy true 2 (.p (some (8, 0))) r2.2 h7) (rC (stdy true 2 (.p (some (8, 0))) h7 h13) (rC (stdy true 2 (.p (some (8, 0))) h13 h19) (rC (stdy false 1 v22 r2.2 h7) (rC (stdy false 1 v22 h7 h13) (rC (stdy false 1 v22 h13 h19) (rB (vLdA r29.2 2 (.p (some (0, 0)))) fun v30 => (rB (vIaa 1 3 r1.1 (.i .i64 0)) fun v31 => (rB (vLd1 r29.2 v31) fun v32 => (rK (rV C (.fn 124 []) [v30, v32] r29.2) fun v33 h34 => (rB (vCvi .i64 v33) fun v35 => (rB (vLdA h34 2 (.p (some (1, 0)))) fun v36 => (rB (vIaa 1 3 r1.1 (.i .i64 0)) fun v37 => (rB (vLd1 h34 v37) fun v38 => (rK (rV C (.fn 124 []) [v36, v38] h34) fun v39 h40 => (rB (vCvi .i64 v39) fun v41 => (rB (vLdA h40 2 (.p (some (2, 0)))) fun v42 => (rB (vIaa 1 3 r1.1 (.i .i64 0)) fun v43 => (rB (vLd1 h40 v43) fun v44 => (rK (rV C (.fn 124 []) [v42, v44] h40) fun v45 h46 => (rB (vCvi .i64 v45) fun v47 => (rB (vFa 0 r28.1) fun v48 => (rB (vStore h46 1 v48 v35) fun r49 => (rB (vFa 1 r28.1) fun v50 => (rB (vStore r49.2 1 v50 v41) fun r51 => (rB (vFa 2 r28.1) fun v52 => (rB (vStore r51.2 1 v52 v47) fun r53 => (rC (stdy true 2 (.p (some (1, 0))) r29.2 h34) (rC (stdy false 1 v37 r29.2 h34) (rC (stdy true 2 (.p (some (2, 0))) r29.2 h34) (rC (stdy true 2 (.p (some (2, 0))) h34 h40) (rC (stdy false 1 v43 r29.2 h34) (rC (stdy false 1 v43 h34 h40) (rB (vLdA r53.2 2 (.p (some (3, 0)))) fun v54 => (rB (vIaa 1 3 r1.1 (.i .i64 0)) fun v55 => (rB (vLd1 r53.2 v55) fun v56 => (rK (rV C (.fn 124 []) [v54, v56] r53.2) fun v57 h58 => (rB (vCvi .i64 v57) fun v59 => (rB (vLdA h58 2 (.p (some (4, 0)))) fun v60 => (rB (vIaa 1 3 r1.1 (.i .i64 0)) fun v61 => (rB (vLd1 h58 v61) fun v62 => (rK (rV C (.fn 124 []) [v60, v62] h58) fun v63 h64 => (rB (vCvi .i64 v63) fun v65 => (rB (vLdA h64 2 (.p (some (7, 0)))) fun v66 => (rB (vIaa 1 3 r1.1 (.i .i64 0)) fun v67 => (rB (vLd1 h64 v67) fun v68 => (rK (rV C (.fn 124 []) [v66, v68] h64) fun v69 h70 => (rB (vCvi .i64 v69) fun v71 => (rB (vFa 3 r28.1) fun v72 => (rB (vStore h70 1 v72 v59) fun r73 => (rB (vFa 6 r28.1) fun v74 => (rB (vStore r73.2 1 v74 v65) fun r75 => (rB (vFa 4 r28.1) fun v76 => (rB (vStore r75.2 1 v76 v71) fun r77 => (rC (stdy true 2 (.p (some (4, 0))) r53.2 h58) (rC (stdy false 1 v61 r53.2 h58) (rC (stdy true 2 (.p (some (7, 0))) r53.2 h58) (rC (stdy true 2 (.p (some (7, 0))) h58 h64) (rC (stdy false 1 v67 r53.2 h58) (rC (stdy false 1 v67 h58 h64) (rB (vLdA r77.2 2 (.p (some (10, 0)))) fun v78 => (rB (vIaa 1 3 r1.1 (.i .i64 2)) fun v79 => (rB (vLd1 r77.2 v79) fun v80 => (rK (rV C (.fn 124 []) [v78, v80] r77.2) fun v81 h82 => (rB (vCvi .i64 v81) fun v83 => (rB (vFa 9 r28.1) fun v84 => (rB (vStore h82 1 v84 v83) fun r85 => (rB (vIaa 1 3 r1.1 (.i .i64 0)) fun v86 => (rB (vLd1 r85.2 v86) fun v87 => (rB (vLdA r85.2 2 (.p (some (0, 0)))) fun v88 => (rB (vLdA r85.2 2 (.p (some (1, 0)))) fun v89 => (rB (vLdA r85.2 2 (.p (some (2, 0)))) fun v90 => (rB (vLdA r85.2 2 (.p (some (3, 0)))) fun v91 => (rB (vLdA r85.2 2 (.p (some (4, 0)))) fun v92 => (rB (vLdA r85.2 2 (.p (some (5, 0)))) fun v93 => (rB (vLdA r85.2 2 (.p (some (6, 0)))) fun v94 => (rB (vLdA r85.2 2 (.p (some (7, 0)))) fun v95 => (rB (vNewSl 8 [(.i .i64 0), (.i .i64 0), (.i .i64 0), (.i .i64 0), (.i .i64 0), (.i .i64 0), (.i .i64 0), (.i .i64 0), (.i .i64 0), (.i .i64 0), (.i .i64 0), (.i .i64 0), (.i .i64 0), (.i .i64 0), (.i .i64 0), (.i .i64 0)] [(0, 2, v88), (2, 2, v89), (4, 2, v90), (6, 2, v91), (8, 2, v92), (10, 2, v93), (12, 2, v94), (14, 2, v95)] r85.2) fun r96 => (rK (C 125 [v87, r96.1] r96.2) fun v97 h98 => (rB (bin .neq v97 (.i .u64 0)) fun v99 => (rG v99 false (rB (vIaa 1 3 r1.1 (.i .i64 2)) fun v100 => (rB (vLd1 h98 v100) fun v101 => (rB (vLdA h98 2 (.p (some (10, 0)))) fun v102 => (rB (vNewSl 1 [(.i .i64 0), (.i .i64 0)] [(0, 2, v102)] h98) fun r103 => (rK (C 125 [v101, r103.1] r103.2) fun v104 h105 => (rB (bin .neq v104 (.i .u64 0)) fun v106 => (rK75_9 C k r2.1 r28.1 v99 v106 h105))))))) (rK75_9 C k r2.1 r28.1 v99 undefV h98)))))))))))))))))))))))))))))))))))))))))))))))))))))))))))))))))))))))))))))))))))))))))))))))))))))))))))))))))
theorem rp75 (C : Nat → List V → H → Rr) (k : Nat) : dn C k c75 (rQ75 C k) = fun e h => (rK75 C k (e 0) h) := by
  refine Eq.trans (rseq_eq (rseq_eq (rseq_eq (rseq_eq (rseq_eq (rseq_eq (rseq_eq (rp75_1 C k) (rseq_eq (rp75_2 C k) (rregion_eq (rapp_eq (rgrp_eq2 93 false rfl (rp75_9 C k) rfl) rfl)))) rfl) rfl) rfl) rfl) rfl) rfl) ?_
  kernel_rfl
def F75 : RF := fun C k a h => match a with
  | [a0] => rK75 C k a0 h
  | _ => none
theorem ro75 : RunOK IP 75 F75 := ⟨ir75, ip75, by kernel_rfl, fun C k a h r e => by
  unfold F75 at e
  split at e
  · exact ⟨by kernel_rfl, (congrFun (congrFun (rp75 C k) _) h).trans e⟩
  · cases e⟩
theorem ip76 : IP 76 = some ir76 := rfl
def rQ76 (C : Nat → List V → H → Rr) (k : Nat) : X → E → H → Rr := Qrr rs76
def rK76 (C : Nat → List V → H → Rr) (k : Nat) (x0 : V) (h : H) : Rr := (rB (vBox x0 h) fun r1 => (rB (some (.p (some (H.nx r1.2, 0)), H.new r1.2 ⟨false, [(.i .u64 0), (.i .u64 0), (.i .u64 0)]⟩)) fun r2 => (rB (vFa 6 r1.1) fun v3 => (rB (vLd1 r2.2 v3) fun v4 => (rB (bin .neq v4 (.i .i64 5)) fun v5 => (rS v5 (rB (vBld [(.i .u64 0), (.i .u64 0), (.i .u64 0)] []) fun v6 => (rB (vStore r2.2 3 r2.1 v6) fun r7 => (rB (vLdA r7.2 3 r2.1) fun v8 => (some (v8, r7.2))))) (rB (vFa 3 r1.1) fun v9 => (rB (vLdA r2.2 3 v9) fun v10 => (rB (vStore r2.2 3 r2.1 v10) fun r11 => (rB (vLdA r11.2 3 r2.1) fun v12 => (some (v12, r11.2))))))))))))
theorem rp76 (C : Nat → List V → H → Rr) (k : Nat) : dn C k c76 (rQ76 C k) = fun e h => (rK76 C k (e 0) h) := by kernel_rfl
def F76 : RF := fun C k a h => match a with
  | [a0] => rK76 C k a0 h
  | _ => none
theorem ro76 : RunOK IP 76 F76 := ⟨ir76, ip76, by kernel_rfl, fun C k a h r e => by
  unfold F76 at e
  split at e
  · exact ⟨by kernel_rfl, (congrFun (congrFun (rp76 C k) _) h).trans e⟩
  · cases e⟩
theorem ip77 : IP 77 = some ir77 := rfl
def rQ77 (C : Nat → List V → H → Rr) (k : Nat) : X → E → H → Rr := Qrr rs77
def rQ77_1 (C : Nat → List V → H → Rr) (k : Nat) : X → E → H → Rr := (rQ77 C k)
def rK77_1 (C : Nat → List V → H → Rr) (k : Nat) (x0 : V) (h : H) : Rr := (rB (vNilc x0) fun v1 => (rB (vFa 1 v1) fun v2 => (rB (vLdA h 2 v2) fun v3 => (rB (vNilc x0) fun v4 => (rB (vFa 4 v4) fun v5 => (rB (vLd1 h v5) fun v6 => (rK (C 72 [v3, v6] h) fun v7 h8 => (rB (vNilc x0) fun v9 => (rB (vFa 9 v9) fun v10 => (rB (vStore h8 1 v10 (.i .i64 1)) fun r11 => (rB (vNilc x0) fun v12 => (rB (vFa 10 v12) fun v13 => (rB (vStore r11.2 8 v13 v7) fun r14 => (some ((.tup []), r14.2)))))))))))))))
def rJ77_1 (C : Nat → List V → H → Rr) (k : Nat) : E → H → Rr := fun e h => (rK77_1 C k (e 0) h)
theorem rp77_1 (C : Nat → List V → H → Rr) (k : Nat) : dn C k c77_1 (rQ77_1 C k) = (rJ77_1 C k) := by kernel_rfl
def rR77_2 (C : Nat → List V → H → Rr) (k : Nat) : X → E → H → Rr := (Qbr 0 (Qxr (rJ77_1 C k) (rQ77 C k)))
def rQ77_2 (C : Nat → List V → H → Rr) (k : Nat) (g77_2 : V → V → V → H → Rr) : X → E → H → Rr := Qxr (fun e h => g77_2 (e 0) (e 22) (e 23) h) (rR77_2 C k)
def rL77_2 (C : Nat → List V → H → Rr) (k : Nat) (g77_2 : V → V → V → H → Rr) (x0 x22 x23 : V) (h : H) : Rr := (rB (bin .lss x23 x22) fun v1 => (rS v1 (rB (vNilc x0) fun v2 => (rB (vFa 6 v2) fun v3 => (rB (vLd1 h v3) fun v4 => (rB (bin .add v4 (.i .i64 1)) fun v5 => (rB (vNilc x0) fun v6 => (rB (vFa 3 v6) fun v7 => (rB (vLd1 h v7) fun v8 => (rB (vLens v8) fun v9 => (rB (bin .rem v5 v9) fun v10 => (rB (vNilc x0) fun v11 => (rB (vFa 6 v11) fun v12 => (rB (vStore h 1 v12 v10) fun r13 => (rB (vNilc x0) fun v14 => (rB (vFa 0 v14) fun v15 => (rB (vLd1 r13.2 v15) fun v16 => (rK (C 126 [v16, v4] r13.2) fun v17 h18 => (rB (vExt v17 0) fun v19 => (rB (vExt v17 1) fun v20 => (rB (some (.p (some (H.nx h18, 0)), H.new h18 ⟨false, [(.i .i64 0), (.i .i64 0), (.i .i64 0), (.i .i64 0), (.i .i64 0), (.i .u32 0), (.i .i64 0), (.b false), (.b false), (.i .i64 0), (.i .u32 0)]⟩)) fun r21 => (rB (vStore r21.2 11 r21.1 v19) fun r22 => (rS v20 (rB (vLdA r22.2 11 r21.1) fun v23 => (rK (C 60 [v23] r22.2) fun v24 h25 => (rB (vExt v24 0) fun v26 => (rB (vExt v24 1) fun v27 => (rB (some (.p (some (H.nx h25, 0)), H.new h25 ⟨false, [(.i .u64 0), (.i .u64 0), (.i .u64 0)]⟩)) fun r28 => (rB (vStore r28.2 3 r28.1 v26) fun r29 => (rB (vNilc x0) fun v30 => (rB (vFa 27 v30) fun v31 => (rB (vStore r29.2 1 v31 v4) fun r32 => (rB (vNilc x0) fun v33 => (rB (vFa 9 v33) fun v34 => (rB (vStore r32.2 1 v34 (.i .i64 2)) fun r35 => (rB (vNilc x0) fun v36 => (rB (vFa 3 v36) fun v37 => (rB (vLd1 r35.2 v37) fun v38 => (rB (vIa 2 v38 v4) fun v39 => (rB (vLdA r35.2 2 v39) fun v40 => (rB (vLdA r35.2 3 r28.1) fun v41 => (rB (vNilc x0) fun v42 => (rB (vFa 5 v42) fun v43 => (rB (vLd1 r35.2 v43) fun v44 => (rB (vIa 1 v44 v4) fun v45 => (rB (vLd1 r35.2 v45) fun v46 => (rK (C 87 [v40, v41, v46] r35.2) fun v47 h48 => (rB (vNilc x0) fun v49 => (rB (vFa 18 v49) fun v50 => (rB (vStore h48 9 v50 v47) fun r51 => (some ((.tup []), r51.2))))))))))))))))))))))))))))) (rB (bin .add x23 (.i .i64 1)) fun v52 => (g77_2 x0 x22 v52 r22.2))))))))))))))))))))))) (rK77_1 C k x0 h)))
theorem rp77_2 (C : Nat → List V → H → Rr) (k : Nat) (g77_2 : V → V → V → H → Rr) : dn C k c77_2 (rQ77_2 C k g77_2) = fun e h => (rL77_2 C k g77_2 (e 0) (e 22) (e 23) h) := by kernel_rfl
def rW77_2 (C : Nat → List V → H → Rr) (k : Nat) (x0 x22 x23 : V) (h : H) : Rr := rFix k (fun (g : V × V × V × Unit → H → Rr) (x : V × V × V × Unit) h => rL77_2 C k (fun y0 y22 y23 h => g (y0, y22, y23, ()) h) x.1 x.2.1 x.2.2.1 h) (x0, x22, x23, ()) h
theorem rn77_2 (C : Nat → List V → H → Rr) (k : Nat) : ∀ g : V × V × V × Unit → H → Rr, dn C k c77_2 (Qxr (fun e h => g ((fun e : E => ((e 0, e 22, e 23, ()) : V × V × V × Unit)) e) h) (rR77_2 C k)) = fun e h => (fun (g : V × V × V × Unit → H → Rr) (x : V × V × V × Unit) h => rL77_2 C k (fun y0 y22 y23 h => g (y0, y22, y23, ()) h) x.1 x.2.1 x.2.2.1 h) g ((fun e : E => ((e 0, e 22, e 23, ()) : V × V × V × Unit)) e) h := fun g => rp77_2 C k (fun y0 y22 y23 h => g (y0, y22, y23, ()) h)
theorem rw77_2 (C : Nat → List V → H → Rr) (k : Nat) : dn C k (.loop c77_2) (rR77_2 C k) = fun e h => (rW77_2 C k (e 0) (e 22) (e 23) h) := rloop_eq (fun e : E => ((e 0, e 22, e 23, ()) : V × V × V × Unit)) (fun (g : V × V × V × Unit → H → Rr) (x : V × V × V × Unit) h => rL77_2 C k (fun y0 y22 y23 h => g (y0, y22, y23, ()) h) x.1 x.2.1 x.2.2.1 h) (rn77_2 C k)
def rK77 (C : Nat → List V → H → Rr) (k : Nat) (x0 : V) (h : H) : Rr := (rB (vNilc x0) fun v1 => (rB (vFa 7 v1) fun v2 => (rB (vLd1 h v2) fun v3 => (rB (un .not v3) fun v4 => (rB (vNilc x0) fun v5 => (rB (vFa 7 v5) fun v6 => (rB (vStore h 1 v6 v4) fun r7 => (rS v3 (rB (vNilc x0) fun v8 => (rB (vFa 3 v8) fun v9 => (rB (vLd1 r7.2 v9) fun v10 => (rB (vLens v10) fun v11 => (rW77_2 C k x0 v11 (.i .i64 0) r7.2))))) (rK77_1 C k x0 r7.2)))))))))
theorem rp77 (C : Nat → List V → H → Rr) (k : Nat) : dn C k c77 (rQ77 C k) = fun e h => (rK77 C k (e 0) h) := by
  refine Eq.trans (rseq_eq (rseq_eq (rseq_eq (rp77_1 C k) (rseq_eq (rcond_eq (rseq_eq (rblock_eq (rw77_2 C k)) rfl) rfl) rfl)) rfl) rfl) ?_
  kernel_rfl
def F77 : RF := fun C k a h => match a with
  | [a0] => rK77 C k a0 h
  | _ => none
theorem ro77 : RunOK IP 77 F77 := ⟨ir77, ip77, by kernel_rfl, fun C k a h r e => by
  unfold F77 at e
  split at e
  · exact ⟨by kernel_rfl, (congrFun (congrFun (rp77 C k) _) h).trans e⟩
  · cases e⟩
theorem ip78 : IP 78 = some ir78 := rfl
def rQ78 (C : Nat → List V → H → Rr) (k : Nat) : X → E → H → Rr := Qrr rs78
def rQ78_1 (C : Nat → List V → H → Rr) (k : Nat) : X → E → H → Rr := (rQ78 C k)
def rK78_1 (C : Nat → List V → H → Rr) (k : Nat) (x0 x6 x70 : V) (h : H) : Rr := (rS x70 (rB (vNilc x0) fun v1 => (rB (vFa 8 v1) fun v2 => (rB (vStore h 1 v2 (.b false)) fun r3 => (rB (vNilc x0) fun v4 => (rB (vFa 0 v4) fun v5 => (rB (vLd1 r3.2 v5) fun v6 => (rB (vLdA r3.2 11 x6) fun v7 => (rK (C 127 [v6, v7] r3.2) fun v8 h9 => (some ((.tup []), h9)))))))))) (some ((.tup []), h)))
def rJ78_1 (C : Nat → List V → H → Rr) (k : Nat) : E → H → Rr := fun e h => (rK78_1 C k (e 0) (e 6) (e 70) h)
theorem rp78_1 (C : Nat → List V → H → Rr) (k : Nat) : dn C k c78_1 (rQ78_1 C k) = (rJ78_1 C k) := by kernel_rfl
def rS78_5 (C : Nat → List V → H → Rr) (k : Nat) : E → H → Rr := ((Qxr (rJ78_1 C k) (rQ78 C k)) X.normal)
def rK78_5 (C : Nat → List V → H → Rr) (k : Nat) (x0 x6 x66 x69 : V) (h : H) : Rr := (rB (vPick x66 x69 (.b false)) fun v1 => (rK78_1 C k x0 x6 v1 h))
def rJ78_5 (C : Nat → List V → H → Rr) (k : Nat) : E → H → Rr := fun e h => (rK78_5 C k (e 0) (e 6) (e 66) (e 69) h)
theorem rp78_5 (C : Nat → List V → H → Rr) (k : Nat) : dnOps C o78_2 (rS78_5 C k) = (rJ78_5 C k) := by
  refine Eq.trans (rapp_eq rfl rfl) ?_
  kernel_rfl
def rK78 (C : Nat → List V → H → Rr) (k : Nat) (x0 x1 : V) (h : H) : Rr := (rB (vNilc x0) fun v1 => (rB (vFa 10 v1) fun v2 => (rB (vLdA h 8 v2) fun v3 => (rK (C 73 [v3, x1] h) fun v4 h5 => (rB (vNilc x0) fun v6 => (rB (vFa 10 v6) fun v7 => (rB (vStore h5 8 v7 v4) fun r8 => (rB (vNilc x0) fun v9 => (rB (vFa 10 v9) fun v10 => (rB (vLdA r8.2 8 v10) fun v11 => (rK (C 74 [v11] r8.2) fun v12 h13 => (rB (vExt v12 0) fun v14 => (rB (vExt v12 1) fun v15 => (rB (un .not v15) fun v16 => (rS v16 (some ((.tup []), h13)) (rB (vNilc x0) fun v17 => (rB (vFa 9 v17) fun v18 => (rB (vStore h13 1 v18 (.i .i64 0)) fun r19 => (rB (bin .neq v14 (.i .i64 0)) fun v20 => (rS v20 (some ((.tup []), r19.2)) (rB (vNilc x0) fun v21 => (rB (vFa 4 v21) fun v22 => (rB (vLd1 r19.2 v22) fun v23 => (rB (bin .add v23 (.i .u64 1)) fun v24 => (rB (vNilc x0) fun v25 => (rB (vFa 4 v25) fun v26 => (rB (vStore r19.2 1 v26 v24) fun r27 => (rB (vNilc x0) fun v28 => (rB (vFa 10 v28) fun v29 => (rB (vLdA r27.2 8 v29) fun v30 => (rK (C 76 [v30] r27.2) fun v31 h32 => (rK (C 75 [v31] h32) fun v33 h34 => (rB (vExt v33 0) fun v35 => (rB (vExt v33 1) fun v36 => (rB (some (.p (some (H.nx h34, 0)), H.new h34 ⟨false, [(.i .i64 0), (.i .i64 0), (.i .i64 0), (.i .i64 0), (.i .i64 0), (.i .u32 0), (.i .i64 0), (.b false), (.b false), (.i .i64 0), (.i .u32 0)]⟩)) fun r37 => (rB (vStore r37.2 11 r37.1 v35) fun r38 => (rB (bin .neq v36 (.i .i64 0)) fun v39 => (rS v39 (some ((.tup []), r38.2)) (rB (vNilc x0) fun v40 => (rB (vFa 28 v40) fun v41 => (rB (vLd1 r38.2 v41) fun v42 => (rB (bin .add v42 (.i .i64 1)) fun v43 => (rB (vNilc x0) fun v44 => (rB (vFa 28 v44) fun v45 => (rB (vStore r38.2 1 v45 v43) fun r46 => (rB (vNilc x0) fun v47 => (rB (vFa 0 v47) fun v48 => (rB (vLd1 r46.2 v48) fun v49 => (rB (vLdA r46.2 11 r37.1) fun v50 => (rK (C 127 [v49, v50] r46.2) fun v51 h52 => (rB (vNilc x0) fun v53 => (rB (vFa 8 v53) fun v54 => (rB (vLd1 h52 v54) fun v55 => (rG v55 true (rB (vFa 0 r37.1) fun v56 => (rB (vLd1 h52 v56) fun v57 => (rB (bin .eql v57 (.i .i64 1)) fun v58 => (rK78_5 C k x0 r37.1 v55 v58 h52)))) (rK78_5 C k x0 r37.1 v55 undefV h52)))))))))))))))))))))))))))))))))))))))))))))))))))))))
theorem rp78 (C : Nat → List V → H → Rr) (k : Nat) : dn C k c78 (rQ78 C k) = fun e h => (rK78 C k (e 0) (e 1) h) := by
  refine Eq.trans (rseq_eq (rseq_eq (rseq_eq (rseq_eq (rseq_eq (rseq_eq (rseq_eq (rseq_eq (rseq_eq (rseq_eq (rseq_eq (rp78_1 C k) (rregion_eq (rapp_eq (rgrp_eq2 66 true rfl (rp78_5 C k) rfl) rfl))) rfl) rfl) rfl) rfl) rfl) rfl) rfl) rfl) rfl) rfl) ?_
  kernel_rfl
def F78 : RF := fun C k a h => match a with
  | [a0, a1] => rK78 C k a0 a1 h
  | _ => none
theorem ro78 : RunOK IP 78 F78 := ⟨ir78, ip78, by kernel_rfl, fun C k a h r e => by
  unfold F78 at e
  split at e
  · exact ⟨by kernel_rfl, (congrFun (congrFun (rp78 C k) _) h).trans e⟩
  · cases e⟩
theorem ip79 : IP 79 = some ir79 := rfl
def rQ79 (C : Nat → List V → H → Rr) (k : Nat) : X → E → H → Rr := Qrr rs79
def rK79 (C : Nat → List V → H → Rr) (k : Nat) (x0 x1 : V) (h : H) : Rr := (rB (vNilc x0) fun v1 => (rB (vFa 18 v1) fun v2 => (rB (vLdA h 9 v2) fun v3 => (rK (C 62 [v3, x1] h) fun v4 h5 => (rB (vNilc x0) fun v6 => (rB (vFa 18 v6) fun v7 => (rB (vStore h5 9 v7 v4) fun r8 => (rB (vNilc x0) fun v9 => (rB (vFa 18 v9) fun v10 => (rB (vLdA r8.2 9 v10) fun v11 => (rK (C 63 [v11] r8.2) fun v12 h13 => (rB (vExt v12 0) fun v14 => (rB (vExt v12 1) fun v15 => (rB (un .not v15) fun v16 => (rS v16 (some ((.tup []), h13)) (rB (vNilc x0) fun v17 => (rB (vFa 9 v17) fun v18 => (rB (vStore h13 1 v18 (.i .i64 0)) fun r19 => (rB (bin .eql v14 (.i .i64 0)) fun v20 => (rS v20 (rB (vNilc x0) fun v21 => (rB (vFa 5 v21) fun v22 => (rB (vLd1 r19.2 v22) fun v23 => (rB (vNilc x0) fun v24 => (rB (vFa 27 v24) fun v25 => (rB (vLd1 r19.2 v25) fun v26 => (rB (vIa 1 v23 v26) fun v27 => (rB (vLd1 r19.2 v27) fun v28 => (rB (bin .add v28 (.i .u64 1)) fun v29 => (rB (vIa 1 v23 v26) fun v30 => (rB (vStore r19.2 1 v30 v29) fun r31 => (rB (vNilc x0) fun v32 => (rB (vFa 0 v32) fun v33 => (rB (vLd1 r31.2 v33) fun v34 => (rB (vNilc x0) fun v35 => (rB (vFa 27 v35) fun v36 => (rB (vLd1 r31.2 v36) fun v37 => (rK (C 128 [v34, v37] r31.2) fun v38 h39 => (some ((.tup []), h39)))))))))))))))))))) (some ((.tup []), r19.2))))))))))))))))))))))
theorem rp79 (C : Nat → List V → H → Rr) (k : Nat) : dn C k c79 (rQ79 C k) = fun e h => (rK79 C k (e 0) (e 1) h) := by kernel_rfl
def F79 : RF := fun C k a h => match a with
  | [a0, a1] => rK79 C k a0 a1 h
  | _ => none
theorem ro79 : RunOK IP 79 F79 := ⟨ir79, ip79, by kernel_rfl, fun C k a h r e => by
  unfold F79 at e
  split at e
  · exact ⟨by kernel_rfl, (congrFun (congrFun (rp79 C k) _) h).trans e⟩
  · cases e⟩
theorem ip80 : IP 80 = some ir80 := rfl
def Q80 [q : Hid (V → H → Prop)] : X → E → H → Prop := Qr rs80 q.un
def K80 (x0 : V) (h : H) [q : Hid (V → H → Prop)] : Prop := @Bnd V (foldO max2 x0 [(.i .i64 0)]) ⟨fun v1 => @Bnd V (foldO min2 v1 [(.i .i64 64)]) ⟨fun v2 => @Bnd V (vBld [(.i .i64 0), .nsl] [(0, 1, v2)]) ⟨fun v3 => @Bnd (V × H) (vBox v3 h) ⟨fun r4 => @Hid.un (V → H → Prop) q r4.1 r4.2⟩⟩⟩⟩
theorem p80 [q : Hid (V → H → Prop)] : den IP c80 (@Q80 q) = fun e h => @K80 (e 0) h q := by kernel_rfl
theorem f80 (a0 : V) (h : H) (Q : V → H → Prop) : @wF IP 80 [a0] h ⟨Q⟩ ↔ @K80 a0 h ⟨Q⟩ := (Fnc_den (ip80) (by kernel_rfl) (by kernel_rfl) h Q).trans (iff_of_eq (congrFun (congrFun (@p80 ⟨Q⟩) _) h))
def rQ80 (C : Nat → List V → H → Rr) (k : Nat) : X → E → H → Rr := Qrr rs80
def rK80 (C : Nat → List V → H → Rr) (k : Nat) (x0 : V) (h : H) : Rr := (rB (foldO max2 x0 [(.i .i64 0)]) fun v1 => (rB (foldO min2 v1 [(.i .i64 64)]) fun v2 => (rB (vBld [(.i .i64 0), .nsl] [(0, 1, v2)]) fun v3 => (rB (vBox v3 h) fun r4 => (some (r4.1, r4.2))))))
theorem rp80 (C : Nat → List V → H → Rr) (k : Nat) : dn C k c80 (rQ80 C k) = fun e h => (rK80 C k (e 0) h) := by kernel_rfl
def F80 : RF := fun C k a h => match a with
  | [a0] => rK80 C k a0 h
  | _ => none
theorem ro80 : RunOK IP 80 F80 := ⟨ir80, ip80, by kernel_rfl, fun C k a h r e => by
  unfold F80 at e
  split at e
  · exact ⟨by kernel_rfl, (congrFun (congrFun (rp80 C k) _) h).trans e⟩
  · cases e⟩
theorem ip81 : IP 81 = some ir81 := rfl
def Q81 [q : Hid (V → H → Prop)] : X → E → H → Prop := Qr rs81 q.un
def K81 (x0 : V) (h : H) [q : Hid (V → H → Prop)] : Prop := @Bnd V (foldO max2 x0 [(.i .i64 0)]) ⟨fun v1 => @Bnd V (foldO min2 v1 [(.i .i64 8)]) ⟨fun v2 => @Bnd V (vBld [(.i .i64 0), .nsl, (.b false), (.i .i64 0), (.i .i64 0), (.i .i64 0), (.i .i64 0), (.i .i64 0), (.i .u32 0), (.i .i64 0), (.b false), (.b false), (.i .i64 0), (.i .u32 0), (.i .i64 0), (.i .i64 0)] [(0, 1, v2)]) ⟨fun v3 => @Bnd (V × H) (vBox v3 h) ⟨fun r4 => @Hid.un (V → H → Prop) q r4.1 r4.2⟩⟩⟩⟩
theorem p81 [q : Hid (V → H → Prop)] : den IP c81 (@Q81 q) = fun e h => @K81 (e 0) h q := by kernel_rfl
theorem f81 (a0 : V) (h : H) (Q : V → H → Prop) : @wF IP 81 [a0] h ⟨Q⟩ ↔ @K81 a0 h ⟨Q⟩ := (Fnc_den (ip81) (by kernel_rfl) (by kernel_rfl) h Q).trans (iff_of_eq (congrFun (congrFun (@p81 ⟨Q⟩) _) h))
def rQ81 (C : Nat → List V → H → Rr) (k : Nat) : X → E → H → Rr := Qrr rs81
def rK81 (C : Nat → List V → H → Rr) (k : Nat) (x0 : V) (h : H) : Rr := (rB (foldO max2 x0 [(.i .i64 0)]) fun v1 => (rB (foldO min2 v1 [(.i .i64 8)]) fun v2 => (rB (vBld [(.i .i64 0), .nsl, (.b false), (.i .i64 0), (.i .i64 0), (.i .i64 0), (.i .i64 0), (.i .i64 0), (.i .u32 0), (.i .i64 0), (.b false), (.b false), (.i .i64 0), (.i .u32 0), (.i .i64 0), (.i .i64 0)] [(0, 1, v2)]) fun v3 => (rB (vBox v3 h) fun r4 => (some (r4.1, r4.2))))))
theorem rp81 (C : Nat → List V → H → Rr) (k : Nat) : dn C k c81 (rQ81 C k) = fun e h => (rK81 C k (e 0) h) := by kernel_rfl
def F81 : RF := fun C k a h => match a with
  | [a0] => rK81 C k a0 h
  | _ => none
theorem ro81 : RunOK IP 81 F81 := ⟨ir81, ip81, by kernel_rfl, fun C k a h r e => by
  unfold F81 at e
  split at e
  · exact ⟨by kernel_rfl, (congrFun (congrFun (rp81 C k) _) h).trans e⟩
  · cases e⟩
theorem ip83 : IP 83 = some ir83 := rfl
def Q83 [q : Hid (V → H → Prop)] : X → E → H → Prop := Qr rs83 q.un
def K83 (x0 : V) (h : H) [q : Hid (V → H → Prop)] : Prop := @Bnd V (vEqz false .s x0 V.nsl) ⟨fun v1 => @Sel v1 ⟨@Hid.un (V → H → Prop) q V.nsl h⟩ ⟨@Bnd (V × H) (vNewSl 0 [] [] h) ⟨fun r2 => @Bnd (V × H) (vApp 1 8 r2.1 x0 r2.2) ⟨fun r3 => @Hid.un (V → H → Prop) q r3.1 r3.2⟩⟩⟩⟩
theorem p83 [q : Hid (V → H → Prop)] : den IP c83 (@Q83 q) = fun e h => @K83 (e 0) h q := by kernel_rfl
theorem f83 (a0 : V) (h : H) (Q : V → H → Prop) : @wF IP 83 [a0] h ⟨Q⟩ ↔ @K83 a0 h ⟨Q⟩ := (Fnc_den (ip83) (by kernel_rfl) (by kernel_rfl) h Q).trans (iff_of_eq (congrFun (congrFun (@p83 ⟨Q⟩) _) h))
def rQ83 (C : Nat → List V → H → Rr) (k : Nat) : X → E → H → Rr := Qrr rs83
def rK83 (C : Nat → List V → H → Rr) (k : Nat) (x0 : V) (h : H) : Rr := (rB (vEqz false .s x0 V.nsl) fun v1 => (rS v1 (some (V.nsl, h)) (rB (vNewSl 0 [] [] h) fun r2 => (rB (vApp 1 8 r2.1 x0 r2.2) fun r3 => (some (r3.1, r3.2))))))
theorem rp83 (C : Nat → List V → H → Rr) (k : Nat) : dn C k c83 (rQ83 C k) = fun e h => (rK83 C k (e 0) h) := by kernel_rfl
def F83 : RF := fun C k a h => match a with
  | [a0] => rK83 C k a0 h
  | _ => none
theorem ro83 : RunOK IP 83 F83 := ⟨ir83, ip83, by kernel_rfl, fun C k a h r e => by
  unfold F83 at e
  split at e
  · exact ⟨by kernel_rfl, (congrFun (congrFun (rp83 C k) _) h).trans e⟩
  · cases e⟩
theorem ip84 : IP 84 = some ir84 := rfl
def Q84 [q : Hid (V → H → Prop)] : X → E → H → Prop := Qr rs84 q.un
def K84 (x0 : V) (h : H) [q : Hid (V → H → Prop)] : Prop := @Bnd V (vEqz false .s x0 V.nsl) ⟨fun v1 => @Sel v1 ⟨@Hid.un (V → H → Prop) q V.nsl h⟩ ⟨@Bnd (V × H) (vNewSl 0 [] [] h) ⟨fun r2 => @Bnd (V × H) (vApp 2 16 r2.1 x0 r2.2) ⟨fun r3 => @Hid.un (V → H → Prop) q r3.1 r3.2⟩⟩⟩⟩
theorem p84 [q : Hid (V → H → Prop)] : den IP c84 (@Q84 q) = fun e h => @K84 (e 0) h q := by kernel_rfl
theorem f84 (a0 : V) (h : H) (Q : V → H → Prop) : @wF IP 84 [a0] h ⟨Q⟩ ↔ @K84 a0 h ⟨Q⟩ := (Fnc_den (ip84) (by kernel_rfl) (by kernel_rfl) h Q).trans (iff_of_eq (congrFun (congrFun (@p84 ⟨Q⟩) _) h))
def rQ84 (C : Nat → List V → H → Rr) (k : Nat) : X → E → H → Rr := Qrr rs84
def rK84 (C : Nat → List V → H → Rr) (k : Nat) (x0 : V) (h : H) : Rr := (rB (vEqz false .s x0 V.nsl) fun v1 => (rS v1 (some (V.nsl, h)) (rB (vNewSl 0 [] [] h) fun r2 => (rB (vApp 2 16 r2.1 x0 r2.2) fun r3 => (some (r3.1, r3.2))))))
theorem rp84 (C : Nat → List V → H → Rr) (k : Nat) : dn C k c84 (rQ84 C k) = fun e h => (rK84 C k (e 0) h) := by kernel_rfl
def F84 : RF := fun C k a h => match a with
  | [a0] => rK84 C k a0 h
  | _ => none
theorem ro84 : RunOK IP 84 F84 := ⟨ir84, ip84, by kernel_rfl, fun C k a h r e => by
  unfold F84 at e
  split at e
  · exact ⟨by kernel_rfl, (congrFun (congrFun (rp84 C k) _) h).trans e⟩
  · cases e⟩
theorem ip85 : IP 85 = some ir85 := rfl
def rQ85 (C : Nat → List V → H → Rr) (k : Nat) : X → E → H → Rr := Qrr rs85
def rK85 (C : Nat → List V → H → Rr) (k : Nat) (x0 x1 x2 : V) (h : H) : Rr := (rK (C 129 [x0, x1] h) fun v1 h2 => (rS v1 (rB (vNilc x0) fun v3 => (rB (vFa 0 v3) fun v4 => (rB (vLd1 h2 v4) fun v5 => (rB (vIa 1 v5 x1) fun v6 => (rB (vStore h2 1 v6 x2) fun r7 => (some ((.tup []), r7.2))))))) (some ((.tup []), h2))))
theorem rp85 (C : Nat → List V → H → Rr) (k : Nat) : dn C k c85 (rQ85 C k) = fun e h => (rK85 C k (e 0) (e 1) (e 2) h) := by kernel_rfl
def F85 : RF := fun C k a h => match a with
  | [a0, a1, a2] => rK85 C k a0 a1 a2 h
  | _ => none
theorem ro85 : RunOK IP 85 F85 := ⟨ir85, ip85, by kernel_rfl, fun C k a h r e => by
  unfold F85 at e
  split at e
  · exact ⟨by kernel_rfl, (congrFun (congrFun (rp85 C k) _) h).trans e⟩
  · cases e⟩
theorem ip87 : IP 87 = some ir87 := rfl
def rQ87 (C : Nat → List V → H → Rr) (k : Nat) : X → E → H → Rr := Qrr rs87
def rK87 (C : Nat → List V → H → Rr) (k : Nat) (x0 x1 x2 : V) (h : H) : Rr := (rB (vBox x0 h) fun r1 => (rB (vBox x1 r1.2) fun r2 => (rB (some (.p (some (H.nx r2.2, 0)), H.new r2.2 ⟨false, [(.i .i64 0), (.i .i64 0), (.i .u64 0), (.i .u64 0), (.i .u64 0), (.i .u64 0), (.i .i64 0), (.b false), (.b false)]⟩)) fun r3 => (rB (vLdA r3.2 2 r1.1) fun v4 => (rB (vLdA r3.2 3 r2.1) fun v5 => (rB (vBld [(.i .i64 0), (.i .i64 0), (.i .u64 0), (.i .u64 0), (.i .u64 0), (.i .u64 0), (.i .i64 0), (.b false), (.b false)] [(0, 2, v4), (2, 3, v5), (5, 1, x2), (6, 1, (.i .i64 1)), (7, 1, (.b true))]) fun v6 => (rB (vStore r3.2 9 r3.1 v6) fun r7 => (rB (vLdA r7.2 9 r3.1) fun v8 => (some (v8, r7.2))))))))))
theorem rp87 (C : Nat → List V → H → Rr) (k : Nat) : dn C k c87 (rQ87 C k) = fun e h => (rK87 C k (e 0) (e 1) (e 2) h) := by kernel_rfl
def F87 : RF := fun C k a h => match a with
  | [a0, a1, a2] => rK87 C k a0 a1 a2 h
  | _ => none
theorem ro87 : RunOK IP 87 F87 := ⟨ir87, ip87, by kernel_rfl, fun C k a h r e => by
  unfold F87 at e
  split at e
  · exact ⟨by kernel_rfl, (congrFun (congrFun (rp87 C k) _) h).trans e⟩
  · cases e⟩
theorem ip103 : IP 103 = some ir103 := rfl
def rQ103 (C : Nat → List V → H → Rr) (k : Nat) : X → E → H → Rr := Qrr rs103
def rS103_10 (C : Nat → List V → H → Rr) (k : Nat) : List (E × H) → E → H → Rr := (fun st e h => rChk o103_9 ((e, h) :: st) 27 [(20, 22)] ((Qxr (dn C k .ret (rQ103 C k)) (rQ103 C k)) X.normal e h))
def rK103_10 (C : Nat → List V → H → Rr) (k : Nat) (k20_24 : V) (k20_25 : V) (k22_h : H) (k23_h : H) (x24 x30 : V) (h : H) : Rr := (rB (vPick x24 x30 (.b false)) fun v1 => (rC (stdyG k20_24 true (stdy false 1 k20_25 k22_h k23_h)) (some (v1, h))))
def rJ103_10 (C : Nat → List V → H → Rr) (k : Nat) : List (E × H) → E → H → Rr := fun st e h => (rK103_10 C k ((List.getD st 4 eh0).1 24) ((List.getD st 4 eh0).1 25) (List.getD st 2 eh0).2 (List.getD st 1 eh0).2 (e 24) (e 30) h)
theorem rp103_10 (C : Nat → List V → H → Rr) (k : Nat) : dnT C o103_1 (rS103_10 C k) = (rJ103_10 C k) := by
  refine Eq.trans (rtapp_eq rfl rfl) ?_
  kernel_rfl
def rS103_11 (C : Nat → List V → H → Rr) (k : Nat) : List (E × H) → E → H → Rr := (fun st e h => rChk o103_9 ((e, h) :: st) 27 [(20, 22)] ((Qxr (dn C k .ret (rQ103 C k)) (rQ103 C k)) X.normal e h))
def rK103_11 (C : Nat → List V → H → Rr) (k : Nat) (x1 x3 x19 x22 : V) (h : H) : Rr := (rB (vPick x19 x22 (.b false)) fun v1 => (rG v1 true (rB (vFa 0 x1) fun v2 => (rB (vLd1 h v2) fun v3 => (rK (C 104 [x3] h) fun v4 h5 => (rB (bin .sub (.i .i64 16384) v4) fun v6 => (rB (bin .leq v3 v6) fun v7 => (rK103_10 C k v1 v2 h h5 v1 v7 h5)))))) (rK103_10 C k v1 undefV h h v1 undefV h)))
def rJ103_11 (C : Nat → List V → H → Rr) (k : Nat) : List (E × H) → E → H → Rr := fun st e h => (rK103_11 C k (e 1) (e 3) (e 19) (e 22) h)
theorem rp103_11 (C : Nat → List V → H → Rr) (k : Nat) : dnT C o103_3 (rS103_11 C k) = (rJ103_11 C k) := by
  refine Eq.trans (rtapp_eq (rtgrp_eq2 24 true rfl (rp103_10 C k) rfl) rfl) ?_
  kernel_rfl
def rS103_12 (C : Nat → List V → H → Rr) (k : Nat) : List (E × H) → E → H → Rr := (fun st e h => rChk o103_9 ((e, h) :: st) 27 [(20, 22)] ((Qxr (dn C k .ret (rQ103 C k)) (rQ103 C k)) X.normal e h))
def rK103_12 (C : Nat → List V → H → Rr) (k : Nat) (x1 x3 x12 x17 : V) (h : H) : Rr := (rB (vPick x12 x17 (.b false)) fun v1 => (rG v1 true (rB (vFa 0 x1) fun v2 => (rB (vLd1 h v2) fun v3 => (rB (bin .geq v3 (.i .i64 0)) fun v4 => (rK103_11 C k x1 x3 v1 v4 h)))) (rK103_11 C k x1 x3 v1 undefV h)))
def rJ103_12 (C : Nat → List V → H → Rr) (k : Nat) : List (E × H) → E → H → Rr := fun st e h => (rK103_12 C k (e 1) (e 3) (e 12) (e 17) h)
theorem rp103_12 (C : Nat → List V → H → Rr) (k : Nat) : dnT C o103_5 (rS103_12 C k) = (rJ103_12 C k) := by
  refine Eq.trans (rtapp_eq (rtgrp_eq2 19 true rfl (rp103_11 C k) rfl) rfl) ?_
  kernel_rfl
def rS103_13 (C : Nat → List V → H → Rr) (k : Nat) : List (E × H) → E → H → Rr := (fun st e h => rChk o103_9 ((e, h) :: st) 27 [(20, 22)] ((Qxr (dn C k .ret (rQ103 C k)) (rQ103 C k)) X.normal e h))
def rK103_13 (C : Nat → List V → H → Rr) (k : Nat) (x1 x3 x8 x10 : V) (h : H) : Rr := (rB (vPick x8 x10 (.b false)) fun v1 => (rG v1 true (rB (bin .sub x3 (.i .i64 1)) fun v2 => (rB (bin .and x3 v2) fun v3 => (rB (bin .eql v3 (.i .i64 0)) fun v4 => (rK103_12 C k x1 x3 v1 v4 h)))) (rK103_12 C k x1 x3 v1 undefV h)))
def rJ103_13 (C : Nat → List V → H → Rr) (k : Nat) : List (E × H) → E → H → Rr := fun st e h => (rK103_13 C k (e 1) (e 3) (e 8) (e 10) h)
theorem rp103_13 (C : Nat → List V → H → Rr) (k : Nat) : dnT C o103_7 (rS103_13 C k) = (rJ103_13 C k) := by
  refine Eq.trans (rtapp_eq (rtgrp_eq2 12 true rfl (rp103_12 C k) rfl) rfl) ?_
  kernel_rfl
def rK103 (C : Nat → List V → H → Rr) (k : Nat) (x0 : V) (h : H) : Rr := (rB (vBox x0 h) fun r1 => (rB (vFa 1 r1.1) fun v2 => (rB (vLd1 r1.2 v2) fun v3 => (rB (bin .geq v3 (.i .i64 2)) fun v4 => (rG v4 true (rB (bin .leq v3 (.i .i64 64)) fun v5 => (rK103_13 C k r1.1 v3 v4 v5 r1.2)) (rK103_13 C k r1.1 v3 v4 undefV r1.2))))))
theorem rp103 (C : Nat → List V → H → Rr) (k : Nat) : dn C k c103 (rQ103 C k) = fun e h => (rK103 C k (e 0) h) := by
  refine Eq.trans (rseq_eq (rseq_eq (rseq_eq rfl (rdraw_eq (rtapp_eq (rtgrp_eq2 8 true rfl (rp103_13 C k) rfl) rfl))) rfl) rfl) ?_
  kernel_rfl
def F103 : RF := fun C k a h => match a with
  | [a0] => rK103 C k a0 h
  | _ => none
theorem ro103 : RunOK IP 103 F103 := ⟨ir103, ip103, by kernel_rfl, fun C k a h r e => by
  unfold F103 at e
  split at e
  · exact ⟨by kernel_rfl, (congrFun (congrFun (rp103 C k) _) h).trans e⟩
  · cases e⟩
theorem ip104 : IP 104 = some ir104 := rfl
def rQ104 (C : Nat → List V → H → Rr) (k : Nat) : X → E → H → Rr := Qrr rs104
def rK104 (C : Nat → List V → H → Rr) (k : Nat) (x0 : V) (h : H) : Rr := (rB (foldO max2 x0 [(.i .i64 0)]) fun v1 => (rB (foldO min2 v1 [(.i .i64 64)]) fun v2 => (rB (bin .mul v2 (.i .i64 4)) fun v3 => (rB (bin .add (.i .i64 1) v3) fun v4 => (some (v4, h))))))
theorem rp104 (C : Nat → List V → H → Rr) (k : Nat) : dn C k c104 (rQ104 C k) = fun e h => (rK104 C k (e 0) h) := by kernel_rfl
def F104 : RF := fun C k a h => match a with
  | [a0] => rK104 C k a0 h
  | _ => none
theorem ro104 : RunOK IP 104 F104 := ⟨ir104, ip104, by kernel_rfl, fun C k a h r e => by
  unfold F104 at e
  split at e
  · exact ⟨by kernel_rfl, (congrFun (congrFun (rp104 C k) _) h).trans e⟩
  · cases e⟩
theorem ip105 : IP 105 = some ir105 := rfl
def rQ105 (C : Nat → List V → H → Rr) (k : Nat) : X → E → H → Rr := Qrr rs105
def rK105 (C : Nat → List V → H → Rr) (k : Nat) (x0 : V) (h : H) : Rr := (rB (vEqz false .p x0 (.p none)) fun v1 => (rS v1 (some ((.i .i64 0), h)) (rB (vNilc x0) fun v2 => (rB (vFa 0 v2) fun v3 => (rB (vLd1 h v3) fun v4 => (rB (vLens v4) fun v5 => (some (v5, h))))))))
theorem rp105 (C : Nat → List V → H → Rr) (k : Nat) : dn C k c105 (rQ105 C k) = fun e h => (rK105 C k (e 0) h) := by kernel_rfl
def F105 : RF := fun C k a h => match a with
  | [a0] => rK105 C k a0 h
  | _ => none
theorem ro105 : RunOK IP 105 F105 := ⟨ir105, ip105, by kernel_rfl, fun C k a h r e => by
  unfold F105 at e
  split at e
  · exact ⟨by kernel_rfl, (congrFun (congrFun (rp105 C k) _) h).trans e⟩
  · cases e⟩
theorem ip106 : IP 106 = some ir106 := rfl
def rQ106 (C : Nat → List V → H → Rr) (k : Nat) : X → E → H → Rr := Qrr rs106
def rK106 (C : Nat → List V → H → Rr) (k : Nat) (x0 x1 : V) (h : H) : Rr := (rB (vBox x0 h) fun r1 => (rB (vFa 0 r1.1) fun v2 => (rB (vLd1 r1.2 v2) fun v3 => (rB (bin .add v3 (.i .i64 1)) fun v4 => (rB (vFa 1 r1.1) fun v5 => (rB (vLd1 r1.2 v5) fun v6 => (rB (vCvi .u64 v6) fun v7 => (rB (bin .rem x1 v7) fun v8 => (rB (vCvi .i64 v8) fun v9 => (rB (bin .mul v9 (.i .i64 4)) fun v10 => (rB (bin .add v4 v10) fun v11 => (some (v11, r1.2)))))))))))))
theorem rp106 (C : Nat → List V → H → Rr) (k : Nat) : dn C k c106 (rQ106 C k) = fun e h => (rK106 C k (e 0) (e 1) h) := by kernel_rfl
def F106 : RF := fun C k a h => match a with
  | [a0, a1] => rK106 C k a0 a1 h
  | _ => none
theorem ro106 : RunOK IP 106 F106 := ⟨ir106, ip106, by kernel_rfl, fun C k a h r e => by
  unfold F106 at e
  split at e
  · exact ⟨by kernel_rfl, (congrFun (congrFun (rp106 C k) _) h).trans e⟩
  · cases e⟩
theorem ip107 : IP 107 = some ir107 := rfl
def rQ107 (C : Nat → List V → H → Rr) (k : Nat) : X → E → H → Rr := Qrr rs107
def rS107_16 (C : Nat → List V → H → Rr) (k : Nat) : E → H → Rr := ((Qxr (dn C k .ret (rQ107 C k)) (rQ107 C k)) X.normal)
def rK107_16 (C : Nat → List V → H → Rr) (k : Nat) (x36 x39 : V) (h : H) : Rr := (rB (vPick x36 x39 (.b false)) fun v1 => (some (v1, h)))
def rJ107_16 (C : Nat → List V → H → Rr) (k : Nat) : E → H → Rr := fun e h => (rK107_16 C k (e 36) (e 39) h)
theorem rp107_16 (C : Nat → List V → H → Rr) (k : Nat) : dnOps C o107_1 (rS107_16 C k) = (rJ107_16 C k) := by
  refine Eq.trans (rapp_eq rfl rfl) ?_
  kernel_rfl
def rS107_17 (C : Nat → List V → H → Rr) (k : Nat) : E → H → Rr := ((Qxr (dn C k .ret (rQ107 C k)) (rQ107 C k)) X.normal)
def rK107_17 (C : Nat → List V → H → Rr) (k : Nat) (x1 x31 x34 : V) (h : H) : Rr := (rB (vPick x31 x34 (.b false)) fun v1 => (rG v1 true (rB (vFa 9 x1) fun v2 => (rB (vLd1 h v2) fun v3 => (rK (C 148 [v3, (.i .i64 65535)] h) fun v4 h5 => (rK107_16 C k v1 v4 h5)))) (rK107_16 C k v1 undefV h)))
def rJ107_17 (C : Nat → List V → H → Rr) (k : Nat) : E → H → Rr := fun e h => (rK107_17 C k (e 1) (e 31) (e 34) h)
theorem rp107_17 (C : Nat → List V → H → Rr) (k : Nat) : dnOps C o107_3 (rS107_17 C k) = (rJ107_17 C k) := by
  refine Eq.trans (rapp_eq (rgrp_eq2 36 true rfl (rp107_16 C k) rfl) rfl) ?_
  kernel_rfl
def rS107_18 (C : Nat → List V → H → Rr) (k : Nat) : E → H → Rr := ((Qxr (dn C k .ret (rQ107 C k)) (rQ107 C k)) X.normal)
def rK107_18 (C : Nat → List V → H → Rr) (k : Nat) (x1 x26 x29 : V) (h : H) : Rr := (rB (vPick x26 x29 (.b false)) fun v1 => (rG v1 true (rB (vFa 6 x1) fun v2 => (rB (vLd1 h v2) fun v3 => (rK (C 148 [v3, (.i .i64 15)] h) fun v4 h5 => (rK107_17 C k x1 v1 v4 h5)))) (rK107_17 C k x1 v1 undefV h)))
def rJ107_18 (C : Nat → List V → H → Rr) (k : Nat) : E → H → Rr := fun e h => (rK107_18 C k (e 1) (e 26) (e 29) h)
theorem rp107_18 (C : Nat → List V → H → Rr) (k : Nat) : dnOps C o107_5 (rS107_18 C k) = (rJ107_18 C k) := by
  refine Eq.trans (rapp_eq (rgrp_eq2 31 true rfl (rp107_17 C k) rfl) rfl) ?_
  kernel_rfl
def rS107_19 (C : Nat → List V → H → Rr) (k : Nat) : E → H → Rr := ((Qxr (dn C k .ret (rQ107 C k)) (rQ107 C k)) X.normal)
def rK107_19 (C : Nat → List V → H → Rr) (k : Nat) (x1 x21 x24 : V) (h : H) : Rr := (rB (vPick x21 x24 (.b false)) fun v1 => (rG v1 true (rB (vFa 4 x1) fun v2 => (rB (vLd1 h v2) fun v3 => (rK (C 148 [v3, (.i .i64 16777215)] h) fun v4 h5 => (rK107_18 C k x1 v1 v4 h5)))) (rK107_18 C k x1 v1 undefV h)))
def rJ107_19 (C : Nat → List V → H → Rr) (k : Nat) : E → H → Rr := fun e h => (rK107_19 C k (e 1) (e 21) (e 24) h)
theorem rp107_19 (C : Nat → List V → H → Rr) (k : Nat) : dnOps C o107_7 (rS107_19 C k) = (rJ107_19 C k) := by
  refine Eq.trans (rapp_eq (rgrp_eq2 26 true rfl (rp107_18 C k) rfl) rfl) ?_
  kernel_rfl
def rS107_20 (C : Nat → List V → H → Rr) (k : Nat) : E → H → Rr := ((Qxr (dn C k .ret (rQ107 C k)) (rQ107 C k)) X.normal)
def rK107_20 (C : Nat → List V → H → Rr) (k : Nat) (x1 x16 x19 : V) (h : H) : Rr := (rB (vPick x16 x19 (.b false)) fun v1 => (rG v1 true (rB (vFa 3 x1) fun v2 => (rB (vLd1 h v2) fun v3 => (rK (C 148 [v3, (.i .i64 15)] h) fun v4 h5 => (rK107_19 C k x1 v1 v4 h5)))) (rK107_19 C k x1 v1 undefV h)))
def rJ107_20 (C : Nat → List V → H → Rr) (k : Nat) : E → H → Rr := fun e h => (rK107_20 C k (e 1) (e 16) (e 19) h)
theorem rp107_20 (C : Nat → List V → H → Rr) (k : Nat) : dnOps C o107_9 (rS107_20 C k) = (rJ107_20 C k) := by
  refine Eq.trans (rapp_eq (rgrp_eq2 21 true rfl (rp107_19 C k) rfl) rfl) ?_
  kernel_rfl
def rS107_21 (C : Nat → List V → H → Rr) (k : Nat) : E → H → Rr := ((Qxr (dn C k .ret (rQ107 C k)) (rQ107 C k)) X.normal)
def rK107_21 (C : Nat → List V → H → Rr) (k : Nat) (x1 x11 x14 : V) (h : H) : Rr := (rB (vPick x11 x14 (.b false)) fun v1 => (rG v1 true (rB (vFa 2 x1) fun v2 => (rB (vLd1 h v2) fun v3 => (rK (C 148 [v3, (.i .i64 3)] h) fun v4 h5 => (rK107_20 C k x1 v1 v4 h5)))) (rK107_20 C k x1 v1 undefV h)))
def rJ107_21 (C : Nat → List V → H → Rr) (k : Nat) : E → H → Rr := fun e h => (rK107_21 C k (e 1) (e 11) (e 14) h)
theorem rp107_21 (C : Nat → List V → H → Rr) (k : Nat) : dnOps C o107_11 (rS107_21 C k) = (rJ107_21 C k) := by
  refine Eq.trans (rapp_eq (rgrp_eq2 16 true rfl (rp107_20 C k) rfl) rfl) ?_
  kernel_rfl
def rS107_22 (C : Nat → List V → H → Rr) (k : Nat) : E → H → Rr := ((Qxr (dn C k .ret (rQ107 C k)) (rQ107 C k)) X.normal)
def rK107_22 (C : Nat → List V → H → Rr) (k : Nat) (x1 x6 x9 : V) (h : H) : Rr := (rB (vPick x6 x9 (.b false)) fun v1 => (rG v1 true (rB (vFa 1 x1) fun v2 => (rB (vLd1 h v2) fun v3 => (rK (C 148 [v3, (.i .i64 3)] h) fun v4 h5 => (rK107_21 C k x1 v1 v4 h5)))) (rK107_21 C k x1 v1 undefV h)))
def rJ107_22 (C : Nat → List V → H → Rr) (k : Nat) : E → H → Rr := fun e h => (rK107_22 C k (e 1) (e 6) (e 9) h)
theorem rp107_22 (C : Nat → List V → H → Rr) (k : Nat) : dnOps C o107_13 (rS107_22 C k) = (rJ107_22 C k) := by
  refine Eq.trans (rapp_eq (rgrp_eq2 11 true rfl (rp107_21 C k) rfl) rfl) ?_
  kernel_rfl
def rK107 (C : Nat → List V → H → Rr) (k : Nat) (x0 : V) (h : H) : Rr := (rB (vBox x0 h) fun r1 => (rB (vFa 0 r1.1) fun v2 => (rB (vLd1 r1.2 v2) fun v3 => (rB (bin .geq v3 (.i .i64 1)) fun v4 => (rG v4 true (rB (vFa 0 r1.1) fun v5 => (rB (vLd1 r1.2 v5) fun v6 => (rB (bin .leq v6 (.i .i64 10)) fun v7 => (rK107_22 C k r1.1 v4 v7 r1.2)))) (rK107_22 C k r1.1 v4 undefV r1.2))))))
theorem rp107 (C : Nat → List V → H → Rr) (k : Nat) : dn C k c107 (rQ107 C k) = fun e h => (rK107 C k (e 0) h) := by
  refine Eq.trans (rseq_eq (rseq_eq rfl (rregion_eq (rapp_eq (rgrp_eq2 6 true rfl (rp107_22 C k) rfl) rfl))) rfl) ?_
  kernel_rfl
def F107 : RF := fun C k a h => match a with
  | [a0] => rK107 C k a0 h
  | _ => none
theorem ro107 : RunOK IP 107 F107 := ⟨ir107, ip107, by kernel_rfl, fun C k a h r e => by
  unfold F107 at e
  split at e
  · exact ⟨by kernel_rfl, (congrFun (congrFun (rp107 C k) _) h).trans e⟩
  · cases e⟩
theorem ip108 : IP 108 = some ir108 := rfl
def rQ108 (C : Nat → List V → H → Rr) (k : Nat) : X → E → H → Rr := Qrr rs108
def rK108 (C : Nat → List V → H → Rr) (k : Nat) (x0 x1 x2 : V) (h : H) : Rr := (rB (vBox x0 h) fun r1 => (rB (vLdA r1.2 2 r1.1) fun v2 => (rK (C 149 [v2] r1.2) fun v3 h4 => (rB (un .not v3) fun v5 => (rS v5 (some (x1, h4)) (rB (vLdA h4 2 r1.1) fun v6 => (rK (C 150 [v6] h4) fun v7 h8 => (rB (bin .andNot x1 v7) fun v9 => (rB (vLdA h8 2 r1.1) fun v10 => (rK (C 151 [v10] h8) fun v11 h12 => (rB (foldO min2 x2 [v11]) fun v13 => (rB (vFa 0 r1.1) fun v14 => (rB (vLd1 h12 v14) fun v15 => (rB (bin .shl v13 v15) fun v16 => (rB (bin .or v9 v16) fun v17 => (rC (stdy true 2 r1.1 h4 h8) (rC (stdy false 1 v14 h4 h8) (rC (stdy false 1 v14 h8 h12) (some (v17, h12))))))))))))))))))))
theorem rp108 (C : Nat → List V → H → Rr) (k : Nat) : dn C k c108 (rQ108 C k) = fun e h => (rK108 C k (e 0) (e 1) (e 2) h) := by kernel_rfl
def F108 : RF := fun C k a h => match a with
  | [a0, a1, a2] => rK108 C k a0 a1 a2 h
  | _ => none
theorem ro108 : RunOK IP 108 F108 := ⟨ir108, ip108, by kernel_rfl, fun C k a h r e => by
  unfold F108 at e
  split at e
  · exact ⟨by kernel_rfl, (congrFun (congrFun (rp108 C k) _) h).trans e⟩
  · cases e⟩
theorem ip109 : IP 109 = some ir109 := rfl
def rQ109 (C : Nat → List V → H → Rr) (k : Nat) : X → E → H → Rr := Qrr rs109
def rK109 (C : Nat → List V → H → Rr) (k : Nat) (x0 : V) (h : H) : Rr := (rS x0 (some ((.i .u64 1), h)) (some ((.i .u64 0), h)))
theorem rp109 (C : Nat → List V → H → Rr) (k : Nat) : dn C k c109 (rQ109 C k) = fun e h => (rK109 C k (e 0) h) := by kernel_rfl
def F109 : RF := fun C k a h => match a with
  | [a0] => rK109 C k a0 h
  | _ => none
theorem ro109 : RunOK IP 109 F109 := ⟨ir109, ip109, by kernel_rfl, fun C k a h r e => by
  unfold F109 at e
  split at e
  · exact ⟨by kernel_rfl, (congrFun (congrFun (rp109 C k) _) h).trans e⟩
  · cases e⟩
theorem ip110 : IP 110 = some ir110 := rfl
def rQ110 (C : Nat → List V → H → Rr) (k : Nat) : X → E → H → Rr := Qrr rs110
def rK110 (C : Nat → List V → H → Rr) (k : Nat) (x0 x1 : V) (h : H) : Rr := (rK (C 129 [x0, x1] h) fun v1 h2 => (rB (un .not v1) fun v3 => (rS v3 (some ((.i .u64 0), h2)) (rB (vNilc x0) fun v4 => (rB (vFa 0 v4) fun v5 => (rB (vLd1 h2 v5) fun v6 => (rB (vIa 1 v6 x1) fun v7 => (rB (vLd1 h2 v7) fun v8 => (some (v8, h2))))))))))
theorem rp110 (C : Nat → List V → H → Rr) (k : Nat) : dn C k c110 (rQ110 C k) = fun e h => (rK110 C k (e 0) (e 1) h) := by kernel_rfl
def F110 : RF := fun C k a h => match a with
  | [a0, a1] => rK110 C k a0 a1 h
  | _ => none
theorem ro110 : RunOK IP 110 F110 := ⟨ir110, ip110, by kernel_rfl, fun C k a h r e => by
  unfold F110 at e
  split at e
  · exact ⟨by kernel_rfl, (congrFun (congrFun (rp110 C k) _) h).trans e⟩
  · cases e⟩
theorem ip111 : IP 111 = some ir111 := rfl
def rQ111 (C : Nat → List V → H → Rr) (k : Nat) : X → E → H → Rr := Qrr rs111
def rK111 (C : Nat → List V → H → Rr) (k : Nat) (x0 : V) (h : H) : Rr := (rB (vBox x0 h) fun r1 => (rB (vLdA r1.2 2 r1.1) fun v2 => (rK (C 103 [v2] r1.2) fun v3 h4 => (rB (un .not v3) fun v5 => (rS v5 (some ((.i .i64 (-1)), h4)) (rB (vFa 0 r1.1) fun v6 => (rB (vLd1 h4 v6) fun v7 => (some (v7, h4)))))))))
theorem rp111 (C : Nat → List V → H → Rr) (k : Nat) : dn C k c111 (rQ111 C k) = fun e h => (rK111 C k (e 0) h) := by kernel_rfl
def F111 : RF := fun C k a h => match a with
  | [a0] => rK111 C k a0 h
  | _ => none
theorem ro111 : RunOK IP 111 F111 := ⟨ir111, ip111, by kernel_rfl, fun C k a h r e => by
  unfold F111 at e
  split at e
  · exact ⟨by kernel_rfl, (congrFun (congrFun (rp111 C k) _) h).trans e⟩
  · cases e⟩
theorem ip112 : IP 112 = some ir112 := rfl
def rQ112 (C : Nat → List V → H → Rr) (k : Nat) : X → E → H → Rr := Qrr rs112
def rQ112_1 (C : Nat → List V → H → Rr) (k : Nat) : X → E → H → Rr := (rQ112 C k)
def rK112_1 (C : Nat → List V → H → Rr) (k : Nat) (x2 x4 : V) (h : H) : Rr := (rB (vLdA h 9 x2) fun v1 => (rB (vStore h 9 x4 v1) fun r2 => (rB (vLdA r2.2 9 x4) fun v3 => (some (v3, r2.2)))))
def rJ112_1 (C : Nat → List V → H → Rr) (k : Nat) : E → H → Rr := fun e h => (rK112_1 C k (e 2) (e 4) h)
theorem rp112_1 (C : Nat → List V → H → Rr) (k : Nat) : dn C k c112_1 (rQ112_1 C k) = (rJ112_1 C k) := by kernel_rfl
def rQ112_2 (C : Nat → List V → H → Rr) (k : Nat) : X → E → H → Rr := (Qbr 0 (Qxr (rJ112_1 C k) (rQ112 C k)))
def rQ112_3 (C : Nat → List V → H → Rr) (k : Nat) : X → E → H → Rr := (rQ112_2 C k)
def rK112_3 (C : Nat → List V → H → Rr) (k : Nat) (x2 x4 x22 : V) (h : H) : Rr := (rS x22 (rB (vFa 8 x2) fun v1 => (rB (vStore h 1 v1 (.b true)) fun r2 => (rK112_1 C k x2 x4 r2.2))) (rB (vFa 6 x2) fun v3 => (rB (vStore h 1 v3 (.i .i64 0)) fun r4 => (rK112_1 C k x2 x4 r4.2))))
def rJ112_3 (C : Nat → List V → H → Rr) (k : Nat) : E → H → Rr := fun e h => (rK112_3 C k (e 2) (e 4) (e 22) h)
theorem rp112_3 (C : Nat → List V → H → Rr) (k : Nat) : dn C k c112_3 (rQ112_3 C k) = (rJ112_3 C k) := by kernel_rfl
def rS112_7 (C : Nat → List V → H → Rr) (k : Nat) : E → H → Rr := ((Qxr (rJ112_3 C k) (rQ112_2 C k)) X.normal)
def rK112_7 (C : Nat → List V → H → Rr) (k : Nat) (x2 x4 x27 x29 : V) (h : H) : Rr := (rB (vPick x27 (.b true) x29) fun v1 => (rK112_3 C k x2 x4 v1 h))
def rJ112_7 (C : Nat → List V → H → Rr) (k : Nat) : E → H → Rr := fun e h => (rK112_7 C k (e 2) (e 4) (e 27) (e 29) h)
theorem rp112_7 (C : Nat → List V → H → Rr) (k : Nat) : dnOps C o112_4 (rS112_7 C k) = (rJ112_7 C k) := by
  refine Eq.trans (rapp_eq rfl rfl) ?_
  kernel_rfl
def rK112_2 (C : Nat → List V → H → Rr) (k : Nat) (x1 x2 x4 x6 : V) (h : H) : Rr := (rS x6 (rB (vFa 6 x2) fun v1 => (rB (vStore h 1 v1 (.i .i64 3)) fun r2 => (rK112_1 C k x2 x4 r2.2))) (rB (vFa 5 x2) fun v3 => (rB (vLd1 h v3) fun v4 => (rB (bin .eql x1 v4) fun v5 => (rS v5 (rB (vFa 6 x2) fun v6 => (rB (vStore h 1 v6 (.i .i64 2)) fun r7 => (rK112_1 C k x2 x4 r7.2))) (rB (vFa 5 x2) fun v8 => (rB (vLd1 h v8) fun v9 => (rB (bin .lss x1 v9) fun v10 => (rG v10 false (rB (vFa 7 x2) fun v11 => (rB (vLd1 h v11) fun v12 => (rK112_7 C k x2 x4 v10 v12 h))) (rK112_7 C k x2 x4 v10 undefV h))))))))))
def rJ112_2 (C : Nat → List V → H → Rr) (k : Nat) : E → H → Rr := fun e h => (rK112_2 C k (e 1) (e 2) (e 4) (e 6) h)
theorem rp112_2 (C : Nat → List V → H → Rr) (k : Nat) : dn C k c112_2 (rQ112_2 C k) = (rJ112_2 C k) := by
  refine Eq.trans (rcond_eq rfl (rseq_eq (rcond_eq rfl (rseq_eq (rp112_3 C k) (rregion_eq (rapp_eq (rgrp_eq2 27 false rfl (rp112_7 C k) rfl) rfl)))) rfl)) ?_
  kernel_rfl
def rS112_11 (C : Nat → List V → H → Rr) (k : Nat) : E → H → Rr := ((Qxr (rJ112_2 C k) (Qbr 0 (Qxr (rJ112_1 C k) (rQ112 C k)))) X.normal)
def rK112_11 (C : Nat → List V → H → Rr) (k : Nat) (x1 x2 x4 x11 x13 : V) (h : H) : Rr := (rB (vPick x11 x13 (.b false)) fun v1 => (rK112_2 C k x1 x2 x4 v1 h))
def rJ112_11 (C : Nat → List V → H → Rr) (k : Nat) : E → H → Rr := fun e h => (rK112_11 C k (e 1) (e 2) (e 4) (e 11) (e 13) h)
theorem rp112_11 (C : Nat → List V → H → Rr) (k : Nat) : dnOps C o112_8 (rS112_11 C k) = (rJ112_11 C k) := by
  refine Eq.trans (rapp_eq rfl rfl) ?_
  kernel_rfl
def rK112 (C : Nat → List V → H → Rr) (k : Nat) (x0 x1 : V) (h : H) : Rr := (rB (vBox x0 h) fun r1 => (rB (some (.p (some (H.nx r1.2, 0)), H.new r1.2 ⟨false, [(.i .i64 0), (.i .i64 0), (.i .u64 0), (.i .u64 0), (.i .u64 0), (.i .u64 0), (.i .i64 0), (.b false), (.b false)]⟩)) fun r2 => (rB (vFa 5 r1.1) fun v3 => (rB (vLd1 r2.2 v3) fun v4 => (rB (bin .eql x1 v4) fun v5 => (rG v5 true (rB (vFa 7 r1.1) fun v6 => (rB (vLd1 r2.2 v6) fun v7 => (rK112_11 C k x1 r1.1 r2.1 v5 v7 r2.2))) (rK112_11 C k x1 r1.1 r2.1 v5 undefV r2.2)))))))
theorem rp112 (C : Nat → List V → H → Rr) (k : Nat) : dn C k c112 (rQ112 C k) = fun e h => (rK112 C k (e 0) (e 1) h) := by
  refine Eq.trans (rseq_eq (rseq_eq (rp112_1 C k) (rblock_eq (rseq_eq (rp112_2 C k) (rregion_eq (rapp_eq (rgrp_eq2 11 true rfl (rp112_11 C k) rfl) rfl))))) rfl) ?_
  kernel_rfl
def F112 : RF := fun C k a h => match a with
  | [a0, a1] => rK112 C k a0 a1 h
  | _ => none
theorem ro112 : RunOK IP 112 F112 := ⟨ir112, ip112, by kernel_rfl, fun C k a h r e => by
  unfold F112 at e
  split at e
  · exact ⟨by kernel_rfl, (congrFun (congrFun (rp112 C k) _) h).trans e⟩
  · cases e⟩
theorem ip113 : IP 113 = some ir113 := rfl
def rQ113 (C : Nat → List V → H → Rr) (k : Nat) : X → E → H → Rr := Qrr rs113
def rK113 (C : Nat → List V → H → Rr) (k : Nat) (x0 x1 : V) (h : H) : Rr := (rB (vBox x0 h) fun r1 => (rB (vLdA r1.2 2 r1.1) fun v2 => (rK (C 103 [v2] r1.2) fun v3 h4 => (rB (un .not v3) fun v5 => (rS v5 (some ((.i .i64 (-1)), h4)) (rB (vLdA h4 2 r1.1) fun v6 => (rK (C 106 [v6, x1] h4) fun v7 h8 => (some (v7, h8)))))))))
theorem rp113 (C : Nat → List V → H → Rr) (k : Nat) : dn C k c113 (rQ113 C k) = fun e h => (rK113 C k (e 0) (e 1) h) := by kernel_rfl
def F113 : RF := fun C k a h => match a with
  | [a0, a1] => rK113 C k a0 a1 h
  | _ => none
theorem ro113 : RunOK IP 113 F113 := ⟨ir113, ip113, by kernel_rfl, fun C k a h r e => by
  unfold F113 at e
  split at e
  · exact ⟨by kernel_rfl, (congrFun (congrFun (rp113 C k) _) h).trans e⟩
  · cases e⟩
theorem ip114 : IP 114 = some ir114 := rfl
def rQ114 (C : Nat → List V → H → Rr) (k : Nat) : X → E → H → Rr := Qrr rs114
def rQ114_1 (C : Nat → List V → H → Rr) (k : Nat) : X → E → H → Rr := (rQ114 C k)
def rK114_1 (C : Nat → List V → H → Rr) (k : Nat) (x0 x1 x3 : V) (h : H) : Rr := (rB (vNilc x0) fun v1 => (rB (vFa 0 v1) fun v2 => (rB (vLd1 h v2) fun v3 => (rB (vIa 1 v3 x1) fun v4 => (rB (vStore h 1 v4 x3) fun r5 => (some ((.b true), r5.2)))))))
def rJ114_1 (C : Nat → List V → H → Rr) (k : Nat) : E → H → Rr := fun e h => (rK114_1 C k (e 0) (e 1) (e 3) h)
theorem rp114_1 (C : Nat → List V → H → Rr) (k : Nat) : dn C k c114_1 (rQ114_1 C k) = (rJ114_1 C k) := by kernel_rfl
def rQ114_2 (C : Nat → List V → H → Rr) (k : Nat) : X → E → H → Rr := (Qxr (rJ114_1 C k) (rQ114 C k))
def rK114_2 (C : Nat → List V → H → Rr) (k : Nat) (x0 x1 x3 x23 : V) (h : H) : Rr := (rS x23 (some ((.b false), h)) (rK114_1 C k x0 x1 x3 h))
def rJ114_2 (C : Nat → List V → H → Rr) (k : Nat) : E → H → Rr := fun e h => (rK114_2 C k (e 0) (e 1) (e 3) (e 23) h)
theorem rp114_2 (C : Nat → List V → H → Rr) (k : Nat) : dn C k c114_2 (rQ114_2 C k) = (rJ114_2 C k) := by kernel_rfl
def rS114_6 (C : Nat → List V → H → Rr) (k : Nat) : E → H → Rr := ((Qxr (rJ114_2 C k) (Qxr (rJ114_1 C k) (rQ114 C k))) X.normal)
def rK114_6 (C : Nat → List V → H → Rr) (k : Nat) (x0 x1 x3 x13 x22 : V) (h : H) : Rr := (rB (vPick x13 (.b true) x22) fun v1 => (rK114_2 C k x0 x1 x3 v1 h))
def rJ114_6 (C : Nat → List V → H → Rr) (k : Nat) : E → H → Rr := fun e h => (rK114_6 C k (e 0) (e 1) (e 3) (e 13) (e 22) h)
theorem rp114_6 (C : Nat → List V → H → Rr) (k : Nat) : dnOps C o114_3 (rS114_6 C k) = (rJ114_6 C k) := by
  refine Eq.trans (rapp_eq rfl rfl) ?_
  kernel_rfl
def rK114 (C : Nat → List V → H → Rr) (k : Nat) (x0 x1 x2 x3 : V) (h : H) : Rr := (rK (C 129 [x0, x1] h) fun v1 h2 => (rB (un .not v1) fun v3 => (rG v3 false (rB (vNilc x0) fun v4 => (rB (vFa 0 v4) fun v5 => (rB (vLd1 h2 v5) fun v6 => (rB (vIa 1 v6 x1) fun v7 => (rB (vLd1 h2 v7) fun v8 => (rB (bin .neq v8 x2) fun v9 => (rK114_6 C k x0 x1 x3 v3 v9 h2))))))) (rK114_6 C k x0 x1 x3 v3 undefV h2))))
theorem rp114 (C : Nat → List V → H → Rr) (k : Nat) : dn C k c114 (rQ114 C k) = fun e h => (rK114 C k (e 0) (e 1) (e 2) (e 3) h) := by
  refine Eq.trans (rseq_eq (rseq_eq (rp114_1 C k) (rseq_eq (rp114_2 C k) (rregion_eq (rapp_eq (rgrp_eq2 13 false rfl (rp114_6 C k) rfl) rfl)))) rfl) ?_
  kernel_rfl
def F114 : RF := fun C k a h => match a with
  | [a0, a1, a2, a3] => rK114 C k a0 a1 a2 a3 h
  | _ => none
theorem ro114 : RunOK IP 114 F114 := ⟨ir114, ip114, by kernel_rfl, fun C k a h r e => by
  unfold F114 at e
  split at e
  · exact ⟨by kernel_rfl, (congrFun (congrFun (rp114 C k) _) h).trans e⟩
  · cases e⟩
theorem ip115 : IP 115 = some ir115 := rfl
def rQ115 (C : Nat → List V → H → Rr) (k : Nat) : X → E → H → Rr := Qrr rs115
def rQ115_1 (C : Nat → List V → H → Rr) (k : Nat) : X → E → H → Rr := (rQ115 C k)
def rK115_1 (C : Nat → List V → H → Rr) (k : Nat) (x1 x2 x3 : V) (h : H) : Rr := (rB (vLdA h 2 x3) fun v1 => (rK (C 106 [v1, x1] h) fun v2 h3 => (rB (bin .add v2 (.i .i64 1)) fun v4 => (rB (bin .add v4 x2) fun v5 => (some (v5, h3))))))
def rJ115_1 (C : Nat → List V → H → Rr) (k : Nat) : E → H → Rr := fun e h => (rK115_1 C k (e 1) (e 2) (e 3) h)
theorem rp115_1 (C : Nat → List V → H → Rr) (k : Nat) : dn C k c115_1 (rQ115_1 C k) = (rJ115_1 C k) := by kernel_rfl
def rQ115_2 (C : Nat → List V → H → Rr) (k : Nat) : X → E → H → Rr := (Qxr (rJ115_1 C k) (rQ115 C k))
def rK115_2 (C : Nat → List V → H → Rr) (k : Nat) (x1 x2 x3 x17 : V) (h : H) : Rr := (rS x17 (some ((.i .i64 (-1)), h)) (rK115_1 C k x1 x2 x3 h))
def rJ115_2 (C : Nat → List V → H → Rr) (k : Nat) : E → H → Rr := fun e h => (rK115_2 C k (e 1) (e 2) (e 3) (e 17) h)
theorem rp115_2 (C : Nat → List V → H → Rr) (k : Nat) : dn C k c115_2 (rQ115_2 C k) = (rJ115_2 C k) := by kernel_rfl
def rS115_8 (C : Nat → List V → H → Rr) (k : Nat) : E → H → Rr := ((Qxr (rJ115_2 C k) (Qxr (rJ115_1 C k) (rQ115 C k))) X.normal)
def rK115_8 (C : Nat → List V → H → Rr) (k : Nat) (x1 x2 x3 x14 x16 : V) (h : H) : Rr := (rB (vPick x14 (.b true) x16) fun v1 => (rK115_2 C k x1 x2 x3 v1 h))
def rJ115_8 (C : Nat → List V → H → Rr) (k : Nat) : E → H → Rr := fun e h => (rK115_8 C k (e 1) (e 2) (e 3) (e 14) (e 16) h)
theorem rp115_8 (C : Nat → List V → H → Rr) (k : Nat) : dnOps C o115_3 (rS115_8 C k) = (rJ115_8 C k) := by
  refine Eq.trans (rapp_eq rfl rfl) ?_
  kernel_rfl
def rS115_9 (C : Nat → List V → H → Rr) (k : Nat) : E → H → Rr := ((Qxr (rJ115_2 C k) (Qxr (rJ115_1 C k) (rQ115 C k))) X.normal)
def rK115_9 (C : Nat → List V → H → Rr) (k : Nat) (x1 x2 x3 x10 x12 : V) (h : H) : Rr := (rB (vPick x10 (.b true) x12) fun v1 => (rG v1 false (rB (bin .geq x2 (.i .i64 3)) fun v2 => (rK115_8 C k x1 x2 x3 v1 v2 h)) (rK115_8 C k x1 x2 x3 v1 undefV h)))
def rJ115_9 (C : Nat → List V → H → Rr) (k : Nat) : E → H → Rr := fun e h => (rK115_9 C k (e 1) (e 2) (e 3) (e 10) (e 12) h)
theorem rp115_9 (C : Nat → List V → H → Rr) (k : Nat) : dnOps C o115_5 (rS115_9 C k) = (rJ115_9 C k) := by
  refine Eq.trans (rapp_eq (rgrp_eq2 14 false rfl (rp115_8 C k) rfl) rfl) ?_
  kernel_rfl
def rK115 (C : Nat → List V → H → Rr) (k : Nat) (x0 x1 x2 : V) (h : H) : Rr := (rB (vBox x0 h) fun r1 => (rB (vLdA r1.2 2 r1.1) fun v2 => (rK (C 103 [v2] r1.2) fun v3 h4 => (rB (un .not v3) fun v5 => (rG v5 false (rB (bin .lss x2 (.i .i64 0)) fun v6 => (rK115_9 C k x1 x2 r1.1 v5 v6 h4)) (rK115_9 C k x1 x2 r1.1 v5 undefV h4))))))
theorem rp115 (C : Nat → List V → H → Rr) (k : Nat) : dn C k c115 (rQ115 C k) = fun e h => (rK115 C k (e 0) (e 1) (e 2) h) := by
  refine Eq.trans (rseq_eq (rseq_eq (rp115_1 C k) (rseq_eq (rp115_2 C k) (rregion_eq (rapp_eq (rgrp_eq2 10 false rfl (rp115_9 C k) rfl) rfl)))) rfl) ?_
  kernel_rfl
def F115 : RF := fun C k a h => match a with
  | [a0, a1, a2] => rK115 C k a0 a1 a2 h
  | _ => none
theorem ro115 : RunOK IP 115 F115 := ⟨ir115, ip115, by kernel_rfl, fun C k a h r e => by
  unfold F115 at e
  split at e
  · exact ⟨by kernel_rfl, (congrFun (congrFun (rp115 C k) _) h).trans e⟩
  · cases e⟩
theorem ip116 : IP 116 = some ir116 := rfl
def rQ116 (C : Nat → List V → H → Rr) (k : Nat) : X → E → H → Rr := Qrr rs116
def rK116 (C : Nat → List V → H → Rr) (k : Nat) (x0 x1 : V) (h : H) : Rr := (rB (vBox x0 h) fun r1 => (rB (some (.p (some (H.nx r1.2, 0)), H.new r1.2 ⟨false, [(.i .i64 0), (.i .i64 0)]⟩)) fun r2 => (rB (vFa 0 r1.1) fun v3 => (rB (vLd1 r2.2 v3) fun v4 => (rB (foldO max2 x1 [(.i .i64 0)]) fun v5 => (rB (foldO min2 v5 [(.i .i64 16)]) fun v6 => (rB (bin .add v4 v6) fun v7 => (rB (vFa 0 r1.1) fun v8 => (rB (vStore r2.2 1 v8 v7) fun r9 => (rB (vLdA r9.2 2 r1.1) fun v10 => (rB (vStore r9.2 2 r2.1 v10) fun r11 => (rB (vLdA r11.2 2 r2.1) fun v12 => (some (v12, r11.2))))))))))))))
theorem rp116 (C : Nat → List V → H → Rr) (k : Nat) : dn C k c116 (rQ116 C k) = fun e h => (rK116 C k (e 0) (e 1) h) := by kernel_rfl
def F116 : RF := fun C k a h => match a with
  | [a0, a1] => rK116 C k a0 a1 h
  | _ => none
theorem ro116 : RunOK IP 116 F116 := ⟨ir116, ip116, by kernel_rfl, fun C k a h r e => by
  unfold F116 at e
  split at e
  · exact ⟨by kernel_rfl, (congrFun (congrFun (rp116 C k) _) h).trans e⟩
  · cases e⟩
theorem ip117 : IP 117 = some ir117 := rfl
def rQ117 (C : Nat → List V → H → Rr) (k : Nat) : X → E → H → Rr := Qrr rs117
def rK117 (C : Nat → List V → H → Rr) (k : Nat) (x0 : V) (h : H) : Rr := (rB (foldO max2 x0 [(.i .i64 1)]) fun v1 => (rB (foldO min2 v1 [(.i .i64 16)]) fun v2 => (some (v2, h))))
theorem rp117 (C : Nat → List V → H → Rr) (k : Nat) : dn C k c117 (rQ117 C k) = fun e h => (rK117 C k (e 0) h) := by kernel_rfl
def F117 : RF := fun C k a h => match a with
  | [a0] => rK117 C k a0 h
  | _ => none
theorem ro117 : RunOK IP 117 F117 := ⟨ir117, ip117, by kernel_rfl, fun C k a h r e => by
  unfold F117 at e
  split at e
  · exact ⟨by kernel_rfl, (congrFun (congrFun (rp117 C k) _) h).trans e⟩
  · cases e⟩
theorem ip118 : IP 118 = some ir118 := rfl
def rQ118 (C : Nat → List V → H → Rr) (k : Nat) : X → E → H → Rr := Qrr rs118
def rK118 (C : Nat → List V → H → Rr) (k : Nat) (x0 x1 x2 x3 : V) (h : H) : Rr := (rB (some (.p (some (H.nx h, 0)), H.new h ⟨false, [(.i .i64 0), (.i .i64 0), (.i .i64 0), (.i .i64 0), (.i .i64 0), (.i .u32 0), (.i .i64 0), (.b false), (.b false), (.i .i64 0), (.i .u32 0)]⟩)) fun r1 => (rB (vNilc x0) fun v2 => (rB (vFa 3 v2) fun v3 => (rB (vLdA r1.2 11 v3) fun v4 => (rB (some (.p (some (H.nx r1.2, 0)), H.new r1.2 ⟨false, [(.i .i64 0), (.i .i64 0), (.i .i64 0), (.i .i64 0), (.i .i64 0), (.i .u32 0), (.i .i64 0), (.b false), (.b false), (.i .i64 0), (.i .u32 0)]⟩)) fun r5 => (rB (vStore r5.2 11 r5.1 v4) fun r6 => (rB (vFa 0 r5.1) fun v7 => (rB (vStore r6.2 1 v7 x1) fun r8 => (rB (vFa 9 r5.1) fun v9 => (rB (vStore r8.2 1 v9 x2) fun r10 => (rB (vFa 10 r5.1) fun v11 => (rB (vStore r10.2 1 v11 x3) fun r12 => (rB (vLdA r12.2 11 r5.1) fun v13 => (rB (vStore r12.2 11 r1.1 v13) fun r14 => (rB (vLdA r14.2 11 r1.1) fun v15 => (some (v15, r14.2)))))))))))))))))
theorem rp118 (C : Nat → List V → H → Rr) (k : Nat) : dn C k c118 (rQ118 C k) = fun e h => (rK118 C k (e 0) (e 1) (e 2) (e 3) h) := by kernel_rfl
def F118 : RF := fun C k a h => match a with
  | [a0, a1, a2, a3] => rK118 C k a0 a1 a2 a3 h
  | _ => none
theorem ro118 : RunOK IP 118 F118 := ⟨ir118, ip118, by kernel_rfl, fun C k a h r e => by
  unfold F118 at e
  split at e
  · exact ⟨by kernel_rfl, (congrFun (congrFun (rp118 C k) _) h).trans e⟩
  · cases e⟩
theorem ip120 : IP 120 = some ir120 := rfl
def rQ120 (C : Nat → List V → H → Rr) (k : Nat) : X → E → H → Rr := Qrr rs120
def rK120 (C : Nat → List V → H → Rr) (k : Nat) (x0 x1 x2 : V) (h : H) : Rr := (rB (bin .eql x0 (.i .i64 0)) fun v1 => (rS v1 (some ((.tup [x1, x2, (.b true)]), h)) (rB (bin .eql x0 (.i .i64 1)) fun v2 => (rS v2 (rB (bin .add x2 x1) fun v3 => (rB (bin .add x2 x1) fun v4 => (some ((.tup [v3, v4, (.b true)]), h)))) (rB (bin .eql x0 (.i .i64 2)) fun v5 => (rS v5 (some ((.tup [x2, x2, (.b true)]), h)) (rB (bin .eql x0 (.i .i64 3)) fun v6 => (rS v6 (rB (bin .mul (.i .u32 2) x1) fun v7 => (some ((.tup [v7, x2, (.b true)]), h))) (some ((.tup [(.i .u32 0), x2, (.b false)]), h))))))))))
theorem rp120 (C : Nat → List V → H → Rr) (k : Nat) : dn C k c120 (rQ120 C k) = fun e h => (rK120 C k (e 0) (e 1) (e 2) h) := by kernel_rfl
def F120 : RF := fun C k a h => match a with
  | [a0, a1, a2] => rK120 C k a0 a1 a2 h
  | _ => none
theorem ro120 : RunOK IP 120 F120 := ⟨ir120, ip120, by kernel_rfl, fun C k a h r e => by
  unfold F120 at e
  split at e
  · exact ⟨by kernel_rfl, (congrFun (congrFun (rp120 C k) _) h).trans e⟩
  · cases e⟩
theorem ip123 : IP 123 = some ir123 := rfl
def rQ123 (C : Nat → List V → H → Rr) (k : Nat) : X → E → H → Rr := Qrr rs123
def rQ123_1 (C : Nat → List V → H → Rr) (k : Nat) : X → E → H → Rr := (rQ123 C k)
def rK123_1 (C : Nat → List V → H → Rr) (k : Nat) (x0 x2 x3 x8 x26 : V) (h : H) : Rr := (rS x26 (rB (vNilc x0) fun v1 => (rB (vFa 1 v1) fun v2 => (rB (vLd1 h v2) fun v3 => (rB (vNilc x0) fun v4 => (rB (vFa 1 v4) fun v5 => (rB (vLd1 h v5) fun v6 => (rB (vNilc x0) fun v7 => (rB (vFa 1 v7) fun v8 => (rB (vLd1 h v8) fun v9 => (rB (vIa 7 v3 x8) fun v10 => (rB (vFa 4 v10) fun v11 => (rB (vStore h 1 v11 (.b true)) fun r12 => (rB (vIa 7 v6 x8) fun v13 => (rB (vFa 5 v13) fun v14 => (rB (vStore r12.2 1 v14 x2) fun r15 => (rB (vIa 7 v9 x8) fun v16 => (rB (vFa 6 v16) fun v17 => (rB (vStore r15.2 1 v17 x3) fun r18 => (some ((.tup []), r18.2)))))))))))))))))))) (some ((.tup []), h)))
def rJ123_1 (C : Nat → List V → H → Rr) (k : Nat) : E → H → Rr := fun e h => (rK123_1 C k (e 0) (e 2) (e 3) (e 8) (e 26) h)
theorem rp123_1 (C : Nat → List V → H → Rr) (k : Nat) : dn C k c123_1 (rQ123_1 C k) = (rJ123_1 C k) := by kernel_rfl
def rS123_5 (C : Nat → List V → H → Rr) (k : Nat) : E → H → Rr := ((Qxr (rJ123_1 C k) (rQ123 C k)) X.normal)
def rK123_5 (C : Nat → List V → H → Rr) (k : Nat) (x0 x2 x3 x8 x16 x25 : V) (h : H) : Rr := (rB (vPick x16 x25 (.b false)) fun v1 => (rK123_1 C k x0 x2 x3 x8 v1 h))
def rJ123_5 (C : Nat → List V → H → Rr) (k : Nat) : E → H → Rr := fun e h => (rK123_5 C k (e 0) (e 2) (e 3) (e 8) (e 16) (e 25) h)
theorem rp123_5 (C : Nat → List V → H → Rr) (k : Nat) : dnOps C o123_2 (rS123_5 C k) = (rJ123_5 C k) := by
  refine Eq.trans (rapp_eq rfl rfl) ?_
  kernel_rfl
def rK123 (C : Nat → List V → H → Rr) (k : Nat) (x0 x1 x2 x3 : V) (h : H) : Rr := (rB (vBox x1 h) fun r1 => (rB (vEqz false .p x0 (.p none)) fun v2 => (rS v2 (some ((.tup []), r1.2)) (rB (vLdA r1.2 11 r1.1) fun v3 => (rK (C 152 [x0, v3] r1.2) fun v4 h5 => (rB (bin .geq v4 (.i .i64 0)) fun v6 => (rG v6 true (rB (vNilc x0) fun v7 => (rB (vFa 1 v7) fun v8 => (rB (vLd1 h5 v8) fun v9 => (rB (vIa 7 v9 v4) fun v10 => (rB (vFa 4 v10) fun v11 => (rB (vLd1 h5 v11) fun v12 => (rB (un .not v12) fun v13 => (rK123_5 C k x0 x2 x3 v4 v6 v13 h5)))))))) (rK123_5 C k x0 x2 x3 v4 v6 undefV h5))))))))
theorem rp123 (C : Nat → List V → H → Rr) (k : Nat) : dn C k c123 (rQ123 C k) = fun e h => (rK123 C k (e 0) (e 1) (e 2) (e 3) h) := by
  refine Eq.trans (rseq_eq (rseq_eq (rseq_eq (rseq_eq (rp123_1 C k) (rregion_eq (rapp_eq (rgrp_eq2 16 true rfl (rp123_5 C k) rfl) rfl))) rfl) rfl) rfl) ?_
  kernel_rfl
def F123 : RF := fun C k a h => match a with
  | [a0, a1, a2, a3] => rK123 C k a0 a1 a2 a3 h
  | _ => none
theorem ro123 : RunOK IP 123 F123 := ⟨ir123, ip123, by kernel_rfl, fun C k a h r e => by
  unfold F123 at e
  split at e
  · exact ⟨by kernel_rfl, (congrFun (congrFun (rp123 C k) _) h).trans e⟩
  · cases e⟩
theorem ip124 : IP 124 = some ir124 := rfl
def rQ124 (C : Nat → List V → H → Rr) (k : Nat) : X → E → H → Rr := Qrr rs124
def rK124 (C : Nat → List V → H → Rr) (k : Nat) (x0 x1 : V) (h : H) : Rr := (rB (vBox x0 h) fun r1 => (rB (vLdA r1.2 2 r1.1) fun v2 => (rK (C 149 [v2] r1.2) fun v3 h4 => (rB (un .not v3) fun v5 => (rS v5 (some ((.i .u64 0), h4)) (rB (vFa 0 r1.1) fun v6 => (rB (vLd1 h4 v6) fun v7 => (rB (bin .shr x1 v7) fun v8 => (rB (vLdA h4 2 r1.1) fun v9 => (rK (C 151 [v9] h4) fun v10 h11 => (rB (bin .and v8 v10) fun v12 => (rC (stdy false 1 v6 h4 h11) (some (v12, h11))))))))))))))
theorem rp124 (C : Nat → List V → H → Rr) (k : Nat) : dn C k c124 (rQ124 C k) = fun e h => (rK124 C k (e 0) (e 1) h) := by kernel_rfl
def F124 : RF := fun C k a h => match a with
  | [a0, a1] => rK124 C k a0 a1 h
  | _ => none
theorem ro124 : RunOK IP 124 F124 := ⟨ir124, ip124, by kernel_rfl, fun C k a h r e => by
  unfold F124 at e
  split at e
  · exact ⟨by kernel_rfl, (congrFun (congrFun (rp124 C k) _) h).trans e⟩
  · cases e⟩
theorem ip125 : IP 125 = some ir125 := rfl
def rQ125 (C : Nat → List V → H → Rr) (k : Nat) : X → E → H → Rr := Qrr rs125
def rQ125_1 (C : Nat → List V → H → Rr) (k : Nat) : X → E → H → Rr := (rQ125 C k)
def rK125_1 (C : Nat → List V → H → Rr) (k : Nat) (x0 : V) (h : H) : Rr := (some (x0, h))
def rJ125_1 (C : Nat → List V → H → Rr) (k : Nat) : E → H → Rr := fun e h => (rK125_1 C k (e 0) h)
theorem rp125_1 (C : Nat → List V → H → Rr) (k : Nat) : dn C k c125_1 (rQ125_1 C k) = (rJ125_1 C k) := by kernel_rfl
def rR125_2 (C : Nat → List V → H → Rr) (k : Nat) : X → E → H → Rr := (Qbr 0 (Qxr (rJ125_1 C k) (rQ125 C k)))
def rQ125_2 (C : Nat → List V → H → Rr) (k : Nat) (g125_2 : V → V → V → V → H → Rr) : X → E → H → Rr := Qxr (fun e h => g125_2 (e 0) (e 7) (e 8) (e 9) h) (rR125_2 C k)
def rL125_2 (C : Nat → List V → H → Rr) (k : Nat) (g125_2 : V → V → V → V → H → Rr) (x0 x7 x8 x9 : V) (h : H) : Rr := (rB (bin .lss x9 x8) fun v1 => (rS v1 (rB (vIa 2 x7 x9) fun v2 => (rB (vLdA h 2 v2) fun v3 => (rB (some (.p (some (H.nx h, 0)), H.new h ⟨false, [(.i .i64 0), (.i .i64 0)]⟩)) fun r4 => (rB (vStore r4.2 2 r4.1 v3) fun r5 => (rB (vLdA r5.2 2 r4.1) fun v6 => (rK (C 150 [v6] r5.2) fun v7 h8 => (rB (bin .andNot x0 v7) fun v9 => (rB (bin .add x9 (.i .i64 1)) fun v10 => (g125_2 v9 x7 x8 v10 h8))))))))) (rK125_1 C k x0 h)))
theorem rp125_2 (C : Nat → List V → H → Rr) (k : Nat) (g125_2 : V → V → V → V → H → Rr) : dn C k c125_2 (rQ125_2 C k g125_2) = fun e h => (rL125_2 C k g125_2 (e 0) (e 7) (e 8) (e 9) h) := by kernel_rfl
def rW125_2 (C : Nat → List V → H → Rr) (k : Nat) (x0 x7 x8 x9 : V) (h : H) : Rr := rFix k (fun (g : V × V × V × V × Unit → H → Rr) (x : V × V × V × V × Unit) h => rL125_2 C k (fun y0 y7 y8 y9 h => g (y0, y7, y8, y9, ()) h) x.1 x.2.1 x.2.2.1 x.2.2.2.1 h) (x0, x7, x8, x9, ()) h
theorem rn125_2 (C : Nat → List V → H → Rr) (k : Nat) : ∀ g : V × V × V × V × Unit → H → Rr, dn C k c125_2 (Qxr (fun e h => g ((fun e : E => ((e 0, e 7, e 8, e 9, ()) : V × V × V × V × Unit)) e) h) (rR125_2 C k)) = fun e h => (fun (g : V × V × V × V × Unit → H → Rr) (x : V × V × V × V × Unit) h => rL125_2 C k (fun y0 y7 y8 y9 h => g (y0, y7, y8, y9, ()) h) x.1 x.2.1 x.2.2.1 x.2.2.2.1 h) g ((fun e : E => ((e 0, e 7, e 8, e 9, ()) : V × V × V × V × Unit)) e) h := fun g => rp125_2 C k (fun y0 y7 y8 y9 h => g (y0, y7, y8, y9, ()) h)
theorem rw125_2 (C : Nat → List V → H → Rr) (k : Nat) : dn C k (.loop c125_2) (rR125_2 C k) = fun e h => (rW125_2 C k (e 0) (e 7) (e 8) (e 9) h) := rloop_eq (fun e : E => ((e 0, e 7, e 8, e 9, ()) : V × V × V × V × Unit)) (fun (g : V × V × V × V × Unit → H → Rr) (x : V × V × V × V × Unit) h => rL125_2 C k (fun y0 y7 y8 y9 h => g (y0, y7, y8, y9, ()) h) x.1 x.2.1 x.2.2.1 x.2.2.2.1 h) (rn125_2 C k)
def rK125 (C : Nat → List V → H → Rr) (k : Nat) (x0 x1 : V) (h : H) : Rr := (rB (vLens x1) fun v1 => (rW125_2 C k x0 x1 v1 (.i .i64 0) h))
theorem rp125 (C : Nat → List V → H → Rr) (k : Nat) : dn C k c125 (rQ125 C k) = fun e h => (rK125 C k (e 0) (e 1) h) := by
  refine Eq.trans (rseq_eq (rseq_eq (rp125_1 C k) (rseq_eq (rblock_eq (rw125_2 C k)) rfl)) rfl) ?_
  kernel_rfl
def F125 : RF := fun C k a h => match a with
  | [a0, a1] => rK125 C k a0 a1 h
  | _ => none
theorem ro125 : RunOK IP 125 F125 := ⟨ir125, ip125, by kernel_rfl, fun C k a h r e => by
  unfold F125 at e
  split at e
  · exact ⟨by kernel_rfl, (congrFun (congrFun (rp125 C k) _) h).trans e⟩
  · cases e⟩
theorem ip126 : IP 126 = some ir126 := rfl
def rQ126 (C : Nat → List V → H → Rr) (k : Nat) : X → E → H → Rr := Qrr rs126
def rQ126_1 (C : Nat → List V → H → Rr) (k : Nat) : X → E → H → Rr := (rQ126 C k)
def rK126_1 (C : Nat → List V → H → Rr) (k : Nat) (x0 x1 x4 : V) (h : H) : Rr := (rB (vNilc x0) fun v1 => (rB (vFa 7 v1) fun v2 => (rB (vIaa 1 4 v2 x1) fun v3 => (rB (vLd1 h v3) fun v4 => (rB (vIa 11 v4 (.i .i64 0)) fun v5 => (rB (vLdA h 11 v5) fun v6 => (rB (vStore h 11 x4 v6) fun r7 => (rB (vLdA r7.2 11 x4) fun v8 => (some ((.tup [v8, (.b true)]), r7.2))))))))))
def rJ126_1 (C : Nat → List V → H → Rr) (k : Nat) : E → H → Rr := fun e h => (rK126_1 C k (e 0) (e 1) (e 4) h)
theorem rp126_1 (C : Nat → List V → H → Rr) (k : Nat) : dn C k c126_1 (rQ126_1 C k) = (rJ126_1 C k) := by kernel_rfl
def rQ126_2 (C : Nat → List V → H → Rr) (k : Nat) : X → E → H → Rr := (Qxr (rJ126_1 C k) (rQ126 C k))
def rK126_2 (C : Nat → List V → H → Rr) (k : Nat) (x0 x1 x4 x22 : V) (h : H) : Rr := (rS x22 (rB (vBld [(.i .i64 0), (.i .i64 0), (.i .i64 0), (.i .i64 0), (.i .i64 0), (.i .u32 0), (.i .i64 0), (.b false), (.b false), (.i .i64 0), (.i .u32 0)] []) fun v1 => (rB (vStore h 11 x4 v1) fun r2 => (rB (vLdA r2.2 11 x4) fun v3 => (some ((.tup [v3, (.b false)]), r2.2))))) (rK126_1 C k x0 x1 x4 h))
def rJ126_2 (C : Nat → List V → H → Rr) (k : Nat) : E → H → Rr := fun e h => (rK126_2 C k (e 0) (e 1) (e 4) (e 22) h)
theorem rp126_2 (C : Nat → List V → H → Rr) (k : Nat) : dn C k c126_2 (rQ126_2 C k) = (rJ126_2 C k) := by kernel_rfl
def rS126_8 (C : Nat → List V → H → Rr) (k : Nat) : E → H → Rr := ((Qxr (rJ126_2 C k) (Qxr (rJ126_1 C k) (rQ126 C k))) X.normal)
def rK126_8 (C : Nat → List V → H → Rr) (k : Nat) (x0 x1 x4 x13 x21 : V) (h : H) : Rr := (rB (vPick x13 (.b true) x21) fun v1 => (rK126_2 C k x0 x1 x4 v1 h))
def rJ126_8 (C : Nat → List V → H → Rr) (k : Nat) : E → H → Rr := fun e h => (rK126_8 C k (e 0) (e 1) (e 4) (e 13) (e 21) h)
theorem rp126_8 (C : Nat → List V → H → Rr) (k : Nat) : dnOps C o126_3 (rS126_8 C k) = (rJ126_8 C k) := by
  refine Eq.trans (rapp_eq rfl rfl) ?_
  kernel_rfl
def rS126_9 (C : Nat → List V → H → Rr) (k : Nat) : E → H → Rr := ((Qxr (rJ126_2 C k) (Qxr (rJ126_1 C k) (rQ126 C k))) X.normal)
def rK126_9 (C : Nat → List V → H → Rr) (k : Nat) (x0 x1 x4 x8 x11 : V) (h : H) : Rr := (rB (vPick x8 (.b true) x11) fun v1 => (rG v1 false (rB (vNilc x0) fun v2 => (rB (vFa 7 v2) fun v3 => (rB (vIaa 1 4 v3 x1) fun v4 => (rB (vLd1 h v4) fun v5 => (rB (vLens v5) fun v6 => (rB (bin .eql v6 (.i .i64 0)) fun v7 => (rK126_8 C k x0 x1 x4 v1 v7 h))))))) (rK126_8 C k x0 x1 x4 v1 undefV h)))
def rJ126_9 (C : Nat → List V → H → Rr) (k : Nat) : E → H → Rr := fun e h => (rK126_9 C k (e 0) (e 1) (e 4) (e 8) (e 11) h)
theorem rp126_9 (C : Nat → List V → H → Rr) (k : Nat) : dnOps C o126_5 (rS126_9 C k) = (rJ126_9 C k) := by
  refine Eq.trans (rapp_eq (rgrp_eq2 13 false rfl (rp126_8 C k) rfl) rfl) ?_
  kernel_rfl
def rK126 (C : Nat → List V → H → Rr) (k : Nat) (x0 x1 : V) (h : H) : Rr := (rB (some (.p (some (H.nx h, 0)), H.new h ⟨false, [(.i .i64 0), (.i .i64 0), (.i .i64 0), (.i .i64 0), (.i .i64 0), (.i .u32 0), (.i .i64 0), (.b false), (.b false), (.i .i64 0), (.i .u32 0)]⟩)) fun r1 => (rB (vEqz false .p x0 (.p none)) fun v2 => (rG v2 false (rK (C 65 [x1] r1.2) fun v3 h4 => (rB (un .not v3) fun v5 => (rK126_9 C k x0 x1 r1.1 v2 v5 h4))) (rK126_9 C k x0 x1 r1.1 v2 undefV r1.2))))
theorem rp126 (C : Nat → List V → H → Rr) (k : Nat) : dn C k c126 (rQ126 C k) = fun e h => (rK126 C k (e 0) (e 1) h) := by
  refine Eq.trans (rseq_eq (rseq_eq (rp126_1 C k) (rseq_eq (rp126_2 C k) (rregion_eq (rapp_eq (rgrp_eq2 8 false rfl (rp126_9 C k) rfl) rfl)))) rfl) ?_
  kernel_rfl
def F126 : RF := fun C k a h => match a with
  | [a0, a1] => rK126 C k a0 a1 h
  | _ => none
theorem ro126 : RunOK IP 126 F126 := ⟨ir126, ip126, by kernel_rfl, fun C k a h r e => by
  unfold F126 at e
  split at e
  · exact ⟨by kernel_rfl, (congrFun (congrFun (rp126 C k) _) h).trans e⟩
  · cases e⟩
theorem ip127 : IP 127 = some ir127 := rfl
def rQ127 (C : Nat → List V → H → Rr) (k : Nat) : X → E → H → Rr := Qrr rs127
def rQ127_1 (C : Nat → List V → H → Rr) (k : Nat) : X → E → H → Rr := (rQ127 C k)
def rR127_2 (C : Nat → List V → H → Rr) (k : Nat) : X → E → H → Rr := (Qbr 1 (Qbr 0 (rQ127_1 C k)))
def rQ127_2 (C : Nat → List V → H → Rr) (k : Nat) (g127_2 : V → V → V → V → H → Rr) : X → E → H → Rr := Qxr (fun e h => g127_2 (e 3) (e 28) (e 29) (e 30) h) (rR127_2 C k)
def rL127_2 (C : Nat → List V → H → Rr) (k : Nat) (g127_2 : V → V → V → V → H → Rr) (x3 x28 x29 x30 : V) (h : H) : Rr := (rB (bin .lss x30 x29) fun v1 => (rS v1 (rB (vIa 1 x28 x30) fun v2 => (rB (vLd1 h v2) fun v3 => (rB (vLdA h 11 x3) fun v4 => (rK (C 154 [v3, v4] h) fun v5 h6 => (rB (bin .add x30 (.i .i64 1)) fun v7 => (g127_2 x3 x28 x29 v7 h6)))))) (some ((.tup []), h))))
theorem rp127_2 (C : Nat → List V → H → Rr) (k : Nat) (g127_2 : V → V → V → V → H → Rr) : dn C k c127_2 (rQ127_2 C k g127_2) = fun e h => (rL127_2 C k g127_2 (e 3) (e 28) (e 29) (e 30) h) := by kernel_rfl
def rW127_2 (C : Nat → List V → H → Rr) (k : Nat) (x3 x28 x29 x30 : V) (h : H) : Rr := rFix k (fun (g : V × V × V × V × Unit → H → Rr) (x : V × V × V × V × Unit) h => rL127_2 C k (fun y3 y28 y29 y30 h => g (y3, y28, y29, y30, ()) h) x.1 x.2.1 x.2.2.1 x.2.2.2.1 h) (x3, x28, x29, x30, ()) h
theorem rn127_2 (C : Nat → List V → H → Rr) (k : Nat) : ∀ g : V × V × V × V × Unit → H → Rr, dn C k c127_2 (Qxr (fun e h => g ((fun e : E => ((e 3, e 28, e 29, e 30, ()) : V × V × V × V × Unit)) e) h) (rR127_2 C k)) = fun e h => (fun (g : V × V × V × V × Unit → H → Rr) (x : V × V × V × V × Unit) h => rL127_2 C k (fun y3 y28 y29 y30 h => g (y3, y28, y29, y30, ()) h) x.1 x.2.1 x.2.2.1 x.2.2.2.1 h) g ((fun e : E => ((e 3, e 28, e 29, e 30, ()) : V × V × V × V × Unit)) e) h := fun g => rp127_2 C k (fun y3 y28 y29 y30 h => g (y3, y28, y29, y30, ()) h)
theorem rw127_2 (C : Nat → List V → H → Rr) (k : Nat) : dn C k (.loop c127_2) (rR127_2 C k) = fun e h => (rW127_2 C k (e 3) (e 28) (e 29) (e 30) h) := rloop_eq (fun e : E => ((e 3, e 28, e 29, e 30, ()) : V × V × V × V × Unit)) (fun (g : V × V × V × V × Unit → H → Rr) (x : V × V × V × V × Unit) h => rL127_2 C k (fun y3 y28 y29 y30 h => g (y3, y28, y29, y30, ()) h) x.1 x.2.1 x.2.2.1 x.2.2.2.1 h) (rn127_2 C k)
def rR127_3 (C : Nat → List V → H → Rr) (k : Nat) : X → E → H → Rr := (Qbr 3 (Qbr 0 (rQ127_1 C k)))
def rQ127_3 (C : Nat → List V → H → Rr) (k : Nat) (g127_3 : V → V → V → V → H → Rr) : X → E → H → Rr := Qxr (fun e h => g127_3 (e 3) (e 43) (e 44) (e 45) h) (rR127_3 C k)
def rL127_3 (C : Nat → List V → H → Rr) (k : Nat) (g127_3 : V → V → V → V → H → Rr) (x3 x43 x44 x45 : V) (h : H) : Rr := (rB (bin .lss x45 x44) fun v1 => (rS v1 (rB (vIa 1 x43 x45) fun v2 => (rB (vLd1 h v2) fun v3 => (rB (vLdA h 11 x3) fun v4 => (rK (C 155 [v3, v4] h) fun v5 h6 => (rB (bin .add x45 (.i .i64 1)) fun v7 => (g127_3 x3 x43 x44 v7 h6)))))) (some ((.tup []), h))))
theorem rp127_3 (C : Nat → List V → H → Rr) (k : Nat) (g127_3 : V → V → V → V → H → Rr) : dn C k c127_3 (rQ127_3 C k g127_3) = fun e h => (rL127_3 C k g127_3 (e 3) (e 43) (e 44) (e 45) h) := by kernel_rfl
def rW127_3 (C : Nat → List V → H → Rr) (k : Nat) (x3 x43 x44 x45 : V) (h : H) : Rr := rFix k (fun (g : V × V × V × V × Unit → H → Rr) (x : V × V × V × V × Unit) h => rL127_3 C k (fun y3 y43 y44 y45 h => g (y3, y43, y44, y45, ()) h) x.1 x.2.1 x.2.2.1 x.2.2.2.1 h) (x3, x43, x44, x45, ()) h
theorem rn127_3 (C : Nat → List V → H → Rr) (k : Nat) : ∀ g : V × V × V × V × Unit → H → Rr, dn C k c127_3 (Qxr (fun e h => g ((fun e : E => ((e 3, e 43, e 44, e 45, ()) : V × V × V × V × Unit)) e) h) (rR127_3 C k)) = fun e h => (fun (g : V × V × V × V × Unit → H → Rr) (x : V × V × V × V × Unit) h => rL127_3 C k (fun y3 y43 y44 y45 h => g (y3, y43, y44, y45, ()) h) x.1 x.2.1 x.2.2.1 x.2.2.2.1 h) g ((fun e : E => ((e 3, e 43, e 44, e 45, ()) : V × V × V × V × Unit)) e) h := fun g => rp127_3 C k (fun y3 y43 y44 y45 h => g (y3, y43, y44, y45, ()) h)
theorem rw127_3 (C : Nat → List V → H → Rr) (k : Nat) : dn C k (.loop c127_3) (rR127_3 C k) = fun e h => (rW127_3 C k (e 3) (e 43) (e 44) (e 45) h) := rloop_eq (fun e : E => ((e 3, e 43, e 44, e 45, ()) : V × V × V × V × Unit)) (fun (g : V × V × V × V × Unit → H → Rr) (x : V × V × V × V × Unit) h => rL127_3 C k (fun y3 y43 y44 y45 h => g (y3, y43, y44, y45, ()) h) x.1 x.2.1 x.2.2.1 x.2.2.2.1 h) (rn127_3 C k)
def rK127_1 (C : Nat → List V → H → Rr) (k : Nat) (x0 x3 : V) (h : H) : Rr := (rB (vFa 0 x3) fun v1 => (rB (vLd1 h v1) fun v2 => (rB (bin .eql v2 (.i .i64 1)) fun v3 => (rS v3 (rB (vLdA h 11 x3) fun v4 => (rK (C 153 [x0, v4] h) fun v5 h6 => (some ((.tup []), h6)))) (rB (bin .eql v2 (.i .i64 5)) fun v7 => (rS v7 (rB (vNilc x0) fun v8 => (rB (vFa 4 v8) fun v9 => (rB (vLd1 h v9) fun v10 => (rB (vLens v10) fun v11 => (rW127_2 C k x3 v10 v11 (.i .i64 0) h))))) (rB (bin .eql v2 (.i .i64 6)) fun v12 => (rS v12 (rB (vNilc x0) fun v13 => (rB (vFa 4 v13) fun v14 => (rB (vLd1 h v14) fun v15 => (rB (vLens v15) fun v16 => (rW127_3 C k x3 v15 v16 (.i .i64 0) h))))) (rB (bin .eql v2 (.i .i64 8)) fun v17 => (rS v17 (rB (vNilc x0) fun v18 => (rB (vFa 5 v18) fun v19 => (rB (vLd1 h v19) fun v20 => (rB (vLdA h 11 x3) fun v21 => (rK (C 156 [v20, v21] h) fun v22 h23 => (some ((.tup []), h23))))))) (some ((.tup []), h))))))))))))
def rJ127_1 (C : Nat → List V → H → Rr) (k : Nat) : E → H → Rr := fun e h => (rK127_1 C k (e 0) (e 3) h)
theorem rp127_1 (C : Nat → List V → H → Rr) (k : Nat) : dn C k c127_1 (rQ127_1 C k) = (rJ127_1 C k) := by
  refine Eq.trans (rseq_eq (rblock_eq (rseq_eq (rcond_eq rfl (rseq_eq (rcond_eq (rseq_eq (rblock_eq (rw127_2 C k)) rfl) (rseq_eq (rcond_eq (rseq_eq (rblock_eq (rw127_3 C k)) rfl) rfl) rfl)) rfl)) rfl)) rfl) ?_
  kernel_rfl
def rQ127_4 (C : Nat → List V → H → Rr) (k : Nat) : X → E → H → Rr := (Qxr (rJ127_1 C k) (rQ127 C k))
def rK127_4 (C : Nat → List V → H → Rr) (k : Nat) (x0 x3 x15 : V) (h : H) : Rr := (rS x15 (some ((.tup []), h)) (rK127_1 C k x0 x3 h))
def rJ127_4 (C : Nat → List V → H → Rr) (k : Nat) : E → H → Rr := fun e h => (rK127_4 C k (e 0) (e 3) (e 15) h)
theorem rp127_4 (C : Nat → List V → H → Rr) (k : Nat) : dn C k c127_4 (rQ127_4 C k) = (rJ127_4 C k) := by kernel_rfl
def rS127_8 (C : Nat → List V → H → Rr) (k : Nat) : E → H → Rr := ((Qxr (rJ127_4 C k) (Qxr (rJ127_1 C k) (rQ127 C k))) X.normal)
def rK127_8 (C : Nat → List V → H → Rr) (k : Nat) (x0 x3 x10 x14 : V) (h : H) : Rr := (rB (vPick x10 (.b true) x14) fun v1 => (rK127_4 C k x0 x3 v1 h))
def rJ127_8 (C : Nat → List V → H → Rr) (k : Nat) : E → H → Rr := fun e h => (rK127_8 C k (e 0) (e 3) (e 10) (e 14) h)
theorem rp127_8 (C : Nat → List V → H → Rr) (k : Nat) : dnOps C o127_5 (rS127_8 C k) = (rJ127_8 C k) := by
  refine Eq.trans (rapp_eq rfl rfl) ?_
  kernel_rfl
def rK127 (C : Nat → List V → H → Rr) (k : Nat) (x0 x1 : V) (h : H) : Rr := (rB (vBox x1 h) fun r1 => (rB (vEqz false .p x0 (.p none)) fun v2 => (rG v2 false (rB (vFa 1 r1.1) fun v3 => (rB (vLd1 r1.2 v3) fun v4 => (rK (C 65 [v4] r1.2) fun v5 h6 => (rB (un .not v5) fun v7 => (rK127_8 C k x0 r1.1 v2 v7 h6))))) (rK127_8 C k x0 r1.1 v2 undefV r1.2))))
theorem rp127 (C : Nat → List V → H → Rr) (k : Nat) : dn C k c127 (rQ127 C k) = fun e h => (rK127 C k (e 0) (e 1) h) := by
  refine Eq.trans (rseq_eq (rseq_eq (rp127_1 C k) (rseq_eq (rp127_4 C k) (rregion_eq (rapp_eq (rgrp_eq2 10 false rfl (rp127_8 C k) rfl) rfl)))) rfl) ?_
  kernel_rfl
def F127 : RF := fun C k a h => match a with
  | [a0, a1] => rK127 C k a0 a1 h
  | _ => none
theorem ro127 : RunOK IP 127 F127 := ⟨ir127, ip127, by kernel_rfl, fun C k a h r e => by
  unfold F127 at e
  split at e
  · exact ⟨by kernel_rfl, (congrFun (congrFun (rp127 C k) _) h).trans e⟩
  · cases e⟩
theorem ip128 : IP 128 = some ir128 := rfl
def rQ128 (C : Nat → List V → H → Rr) (k : Nat) : X → E → H → Rr := Qrr rs128
def rK128 (C : Nat → List V → H → Rr) (k : Nat) (x0 x1 : V) (h : H) : Rr := (rK (C 126 [x0, x1] h) fun v1 h2 => (rB (vExt v1 0) fun v3 => (rB (vExt v1 1) fun v4 => (rB (some (.p (some (H.nx h2, 0)), H.new h2 ⟨false, [(.i .i64 0), (.i .i64 0), (.i .i64 0), (.i .i64 0), (.i .i64 0), (.i .u32 0), (.i .i64 0), (.b false), (.b false), (.i .i64 0), (.i .u32 0)]⟩)) fun r5 => (rB (vStore r5.2 11 r5.1 v3) fun r6 => (rB (un .not v4) fun v7 => (rS v7 (some ((.b false), r6.2)) (rB (vNilc x0) fun v8 => (rB (vFa 7 v8) fun v9 => (rB (vIaa 1 4 v9 x1) fun v10 => (rB (vLd1 r6.2 v10) fun v11 => (rB (slcut 11 v11 (some (.i .i64 1)) none none) fun v12 => (rK (C 71 [v12] r6.2) fun v13 h14 => (rB (vNilc x0) fun v15 => (rB (vFa 7 v15) fun v16 => (rB (vIaa 1 4 v16 x1) fun v17 => (rB (vStore h14 1 v17 v13) fun r18 => (some ((.b true), r18.2)))))))))))))))))))
theorem rp128 (C : Nat → List V → H → Rr) (k : Nat) : dn C k c128 (rQ128 C k) = fun e h => (rK128 C k (e 0) (e 1) h) := by kernel_rfl
def F128 : RF := fun C k a h => match a with
  | [a0, a1] => rK128 C k a0 a1 h
  | _ => none
theorem ro128 : RunOK IP 128 F128 := ⟨ir128, ip128, by kernel_rfl, fun C k a h r e => by
  unfold F128 at e
  split at e
  · exact ⟨by kernel_rfl, (congrFun (congrFun (rp128 C k) _) h).trans e⟩
  · cases e⟩
theorem ip129 : IP 129 = some ir129 := rfl
def rQ129 (C : Nat → List V → H → Rr) (k : Nat) : X → E → H → Rr := Qrr rs129
def rQ129_1 (C : Nat → List V → H → Rr) (k : Nat) : X → E → H → Rr := (rQ129 C k)
def rQ129_2 (C : Nat → List V → H → Rr) (k : Nat) : X → E → H → Rr := (rQ129_1 C k)
def rK129_2 (C : Nat → List V → H → Rr) (k : Nat) (h : H) : Rr := (some ((.b true), h))
def rJ129_2 (C : Nat → List V → H → Rr) (k : Nat) : E → H → Rr := fun e h => (rK129_2 C k h)
theorem rp129_2 (C : Nat → List V → H → Rr) (k : Nat) : dn C k c129_2 (rQ129_2 C k) = (rJ129_2 C k) := by kernel_rfl
def rK129_1 (C : Nat → List V → H → Rr) (k : Nat) (x0 x1 : V) (h : H) : Rr := (rB (vNilc x0) fun v1 => (rB (vFa 1 v1) fun v2 => (rB (vLd1 h v2) fun v3 => (rK (C 157 [v3, x1] h) fun v4 h5 => (rB (un .not v4) fun v6 => (rS v6 (rB (vNilc x0) fun v7 => (rB (vFa 1 v7) fun v8 => (rB (vLd1 h5 v8) fun v9 => (rB (vNewSl 1 [(.i .i64 0)] [(0, 1, x1)] h5) fun r10 => (rB (vApp 1 8 v9 r10.1 r10.2) fun r11 => (rB (vNilc x0) fun v12 => (rB (vFa 1 v12) fun v13 => (rB (vStore r11.2 1 v13 r11.1) fun r14 => (rK129_2 C k r14.2))))))))) (rK129_2 C k h5)))))))
def rJ129_1 (C : Nat → List V → H → Rr) (k : Nat) : E → H → Rr := fun e h => (rK129_1 C k (e 0) (e 1) h)
theorem rp129_1 (C : Nat → List V → H → Rr) (k : Nat) : dn C k c129_1 (rQ129_1 C k) = (rJ129_1 C k) := by
  refine Eq.trans (rseq_eq (rp129_2 C k) rfl) ?_
  kernel_rfl
def rQ129_3 (C : Nat → List V → H → Rr) (k : Nat) : X → E → H → Rr := (Qxr (rJ129_1 C k) (rQ129 C k))
def rK129_3 (C : Nat → List V → H → Rr) (k : Nat) (x0 x1 x17 : V) (h : H) : Rr := (rS x17 (rB (vNilc x0) fun v1 => (rB (vFa 2 v1) fun v2 => (rB (vLd1 h v2) fun v3 => (rB (bin .add v3 (.i .i64 1)) fun v4 => (rB (vNilc x0) fun v5 => (rB (vFa 2 v5) fun v6 => (rB (vStore h 1 v6 v4) fun r7 => (some ((.b false), r7.2))))))))) (rK129_1 C k x0 x1 h))
def rJ129_3 (C : Nat → List V → H → Rr) (k : Nat) : E → H → Rr := fun e h => (rK129_3 C k (e 0) (e 1) (e 17) h)
theorem rp129_3 (C : Nat → List V → H → Rr) (k : Nat) : dn C k c129_3 (rQ129_3 C k) = (rJ129_3 C k) := by kernel_rfl
def rS129_7 (C : Nat → List V → H → Rr) (k : Nat) : E → H → Rr := ((Qxr (rJ129_3 C k) (Qxr (rJ129_1 C k) (rQ129 C k))) X.normal)
def rK129_7 (C : Nat → List V → H → Rr) (k : Nat) (x0 x1 x9 x16 : V) (h : H) : Rr := (rB (vPick x9 (.b true) x16) fun v1 => (rK129_3 C k x0 x1 v1 h))
def rJ129_7 (C : Nat → List V → H → Rr) (k : Nat) : E → H → Rr := fun e h => (rK129_7 C k (e 0) (e 1) (e 9) (e 16) h)
theorem rp129_7 (C : Nat → List V → H → Rr) (k : Nat) : dnOps C o129_4 (rS129_7 C k) = (rJ129_7 C k) := by
  refine Eq.trans (rapp_eq rfl rfl) ?_
  kernel_rfl
def rK129 (C : Nat → List V → H → Rr) (k : Nat) (x0 x1 : V) (h : H) : Rr := (rB (vEqz false .p x0 (.p none)) fun v1 => (rS v1 (some ((.b false), h)) (rB (bin .lss x1 (.i .i64 0)) fun v2 => (rG v2 false (rB (vNilc x0) fun v3 => (rB (vFa 0 v3) fun v4 => (rB (vLd1 h v4) fun v5 => (rB (vLens v5) fun v6 => (rB (bin .geq x1 v6) fun v7 => (rK129_7 C k x0 x1 v2 v7 h)))))) (rK129_7 C k x0 x1 v2 undefV h)))))
theorem rp129 (C : Nat → List V → H → Rr) (k : Nat) : dn C k c129 (rQ129 C k) = fun e h => (rK129 C k (e 0) (e 1) h) := by
  refine Eq.trans (rseq_eq (rseq_eq (rseq_eq (rp129_1 C k) (rseq_eq (rp129_3 C k) (rregion_eq (rapp_eq (rgrp_eq2 9 false rfl (rp129_7 C k) rfl) rfl)))) rfl) rfl) ?_
  kernel_rfl
def F129 : RF := fun C k a h => match a with
  | [a0, a1] => rK129 C k a0 a1 h
  | _ => none
theorem ro129 : RunOK IP 129 F129 := ⟨ir129, ip129, by kernel_rfl, fun C k a h r e => by
  unfold F129 at e
  split at e
  · exact ⟨by kernel_rfl, (congrFun (congrFun (rp129 C k) _) h).trans e⟩
  · cases e⟩
theorem ip148 : IP 148 = some ir148 := rfl
def rQ148 (C : Nat → List V → H → Rr) (k : Nat) : X → E → H → Rr := Qrr rs148
def rS148_4 (C : Nat → List V → H → Rr) (k : Nat) : E → H → Rr := ((Qxr (dn C k .ret (rQ148 C k)) (rQ148 C k)) X.normal)
def rK148_4 (C : Nat → List V → H → Rr) (k : Nat) (x7 x10 : V) (h : H) : Rr := (rB (vPick x7 x10 (.b false)) fun v1 => (some (v1, h)))
def rJ148_4 (C : Nat → List V → H → Rr) (k : Nat) : E → H → Rr := fun e h => (rK148_4 C k (e 7) (e 10) h)
theorem rp148_4 (C : Nat → List V → H → Rr) (k : Nat) : dnOps C o148_1 (rS148_4 C k) = (rJ148_4 C k) := by
  refine Eq.trans (rapp_eq rfl rfl) ?_
  kernel_rfl
def rK148 (C : Nat → List V → H → Rr) (k : Nat) (x0 x1 : V) (h : H) : Rr := (rB (bin .geq x0 (.i .i64 0)) fun v1 => (rG v1 true (rB (bin .leq x0 x1) fun v2 => (rK148_4 C k v1 v2 h)) (rK148_4 C k v1 undefV h)))
theorem rp148 (C : Nat → List V → H → Rr) (k : Nat) : dn C k c148 (rQ148 C k) = fun e h => (rK148 C k (e 0) (e 1) h) := by
  refine Eq.trans (rseq_eq (rseq_eq rfl (rregion_eq (rapp_eq (rgrp_eq2 7 true rfl (rp148_4 C k) rfl) rfl))) rfl) ?_
  kernel_rfl
def F148 : RF := fun C k a h => match a with
  | [a0, a1] => rK148 C k a0 a1 h
  | _ => none
theorem ro148 : RunOK IP 148 F148 := ⟨ir148, ip148, by kernel_rfl, fun C k a h r e => by
  unfold F148 at e
  split at e
  · exact ⟨by kernel_rfl, (congrFun (congrFun (rp148 C k) _) h).trans e⟩
  · cases e⟩
theorem ip149 : IP 149 = some ir149 := rfl
def rQ149 (C : Nat → List V → H → Rr) (k : Nat) : X → E → H → Rr := Qrr rs149
def rS149_8 (C : Nat → List V → H → Rr) (k : Nat) : E → H → Rr := ((Qxr (dn C k .ret (rQ149 C k)) (rQ149 C k)) X.normal)
def rK149_8 (C : Nat → List V → H → Rr) (k : Nat) (x16 x22 : V) (h : H) : Rr := (rB (vPick x16 x22 (.b false)) fun v1 => (some (v1, h)))
def rJ149_8 (C : Nat → List V → H → Rr) (k : Nat) : E → H → Rr := fun e h => (rK149_8 C k (e 16) (e 22) h)
theorem rp149_8 (C : Nat → List V → H → Rr) (k : Nat) : dnOps C o149_1 (rS149_8 C k) = (rJ149_8 C k) := by
  refine Eq.trans (rapp_eq rfl rfl) ?_
  kernel_rfl
def rS149_9 (C : Nat → List V → H → Rr) (k : Nat) : E → H → Rr := ((Qxr (dn C k .ret (rQ149 C k)) (rQ149 C k)) X.normal)
def rK149_9 (C : Nat → List V → H → Rr) (k : Nat) (x1 x11 x14 : V) (h : H) : Rr := (rB (vPick x11 x14 (.b false)) fun v1 => (rG v1 true (rB (vFa 1 x1) fun v2 => (rB (vLd1 h v2) fun v3 => (rB (vFa 0 x1) fun v4 => (rB (vLd1 h v4) fun v5 => (rB (bin .sub (.i .i64 64) v5) fun v6 => (rB (bin .leq v3 v6) fun v7 => (rK149_8 C k v1 v7 h))))))) (rK149_8 C k v1 undefV h)))
def rJ149_9 (C : Nat → List V → H → Rr) (k : Nat) : E → H → Rr := fun e h => (rK149_9 C k (e 1) (e 11) (e 14) h)
theorem rp149_9 (C : Nat → List V → H → Rr) (k : Nat) : dnOps C o149_3 (rS149_9 C k) = (rJ149_9 C k) := by
  refine Eq.trans (rapp_eq (rgrp_eq2 16 true rfl (rp149_8 C k) rfl) rfl) ?_
  kernel_rfl
def rS149_10 (C : Nat → List V → H → Rr) (k : Nat) : E → H → Rr := ((Qxr (dn C k .ret (rQ149 C k)) (rQ149 C k)) X.normal)
def rK149_10 (C : Nat → List V → H → Rr) (k : Nat) (x1 x6 x9 : V) (h : H) : Rr := (rB (vPick x6 x9 (.b false)) fun v1 => (rG v1 true (rB (vFa 0 x1) fun v2 => (rB (vLd1 h v2) fun v3 => (rB (bin .lss v3 (.i .i64 64)) fun v4 => (rK149_9 C k x1 v1 v4 h)))) (rK149_9 C k x1 v1 undefV h)))
def rJ149_10 (C : Nat → List V → H → Rr) (k : Nat) : E → H → Rr := fun e h => (rK149_10 C k (e 1) (e 6) (e 9) h)
theorem rp149_10 (C : Nat → List V → H → Rr) (k : Nat) : dnOps C o149_5 (rS149_10 C k) = (rJ149_10 C k) := by
  refine Eq.trans (rapp_eq (rgrp_eq2 11 true rfl (rp149_9 C k) rfl) rfl) ?_
  kernel_rfl
def rK149 (C : Nat → List V → H → Rr) (k : Nat) (x0 : V) (h : H) : Rr := (rB (vBox x0 h) fun r1 => (rB (vFa 0 r1.1) fun v2 => (rB (vLd1 r1.2 v2) fun v3 => (rB (bin .geq v3 (.i .i64 0)) fun v4 => (rG v4 true (rB (vFa 1 r1.1) fun v5 => (rB (vLd1 r1.2 v5) fun v6 => (rB (bin .geq v6 (.i .i64 1)) fun v7 => (rK149_10 C k r1.1 v4 v7 r1.2)))) (rK149_10 C k r1.1 v4 undefV r1.2))))))
theorem rp149 (C : Nat → List V → H → Rr) (k : Nat) : dn C k c149 (rQ149 C k) = fun e h => (rK149 C k (e 0) h) := by
  refine Eq.trans (rseq_eq (rseq_eq rfl (rregion_eq (rapp_eq (rgrp_eq2 6 true rfl (rp149_10 C k) rfl) rfl))) rfl) ?_
  kernel_rfl
def F149 : RF := fun C k a h => match a with
  | [a0] => rK149 C k a0 h
  | _ => none
theorem ro149 : RunOK IP 149 F149 := ⟨ir149, ip149, by kernel_rfl, fun C k a h r e => by
  unfold F149 at e
  split at e
  · exact ⟨by kernel_rfl, (congrFun (congrFun (rp149 C k) _) h).trans e⟩
  · cases e⟩
theorem ip150 : IP 150 = some ir150 := rfl
def rQ150 (C : Nat → List V → H → Rr) (k : Nat) : X → E → H → Rr := Qrr rs150
def rK150 (C : Nat → List V → H → Rr) (k : Nat) (x0 : V) (h : H) : Rr := (rB (vBox x0 h) fun r1 => (rB (vLdA r1.2 2 r1.1) fun v2 => (rK (C 149 [v2] r1.2) fun v3 h4 => (rB (un .not v3) fun v5 => (rS v5 (some ((.i .u64 0), h4)) (rB (vLdA h4 2 r1.1) fun v6 => (rK (C 151 [v6] h4) fun v7 h8 => (rB (vFa 0 r1.1) fun v9 => (rB (vLd1 h8 v9) fun v10 => (rB (bin .shl v7 v10) fun v11 => (rC (stdy false 1 v9 h4 h8) (some (v11, h8)))))))))))))
theorem rp150 (C : Nat → List V → H → Rr) (k : Nat) : dn C k c150 (rQ150 C k) = fun e h => (rK150 C k (e 0) h) := by kernel_rfl
def F150 : RF := fun C k a h => match a with
  | [a0] => rK150 C k a0 h
  | _ => none
theorem ro150 : RunOK IP 150 F150 := ⟨ir150, ip150, by kernel_rfl, fun C k a h r e => by
  unfold F150 at e
  split at e
  · exact ⟨by kernel_rfl, (congrFun (congrFun (rp150 C k) _) h).trans e⟩
  · cases e⟩
theorem ip151 : IP 151 = some ir151 := rfl
def rQ151 (C : Nat → List V → H → Rr) (k : Nat) : X → E → H → Rr := Qrr rs151
def rK151 (C : Nat → List V → H → Rr) (k : Nat) (x0 : V) (h : H) : Rr := (rB (vBox x0 h) fun r1 => (rB (vLdA r1.2 2 r1.1) fun v2 => (rK (C 149 [v2] r1.2) fun v3 h4 => (rB (un .not v3) fun v5 => (rS v5 (some ((.i .u64 0), h4)) (rB (vFa 1 r1.1) fun v6 => (rB (vLd1 h4 v6) fun v7 => (rB (bin .sub (.i .i64 64) v7) fun v8 => (rB (bin .shr (.i .u64 18446744073709551615) v8) fun v9 => (some (v9, h4)))))))))))
theorem rp151 (C : Nat → List V → H → Rr) (k : Nat) : dn C k c151 (rQ151 C k) = fun e h => (rK151 C k (e 0) h) := by kernel_rfl
def F151 : RF := fun C k a h => match a with
  | [a0] => rK151 C k a0 h
  | _ => none
theorem ro151 : RunOK IP 151 F151 := ⟨ir151, ip151, by kernel_rfl, fun C k a h r e => by
  unfold F151 at e
  split at e
  · exact ⟨by kernel_rfl, (congrFun (congrFun (rp151 C k) _) h).trans e⟩
  · cases e⟩
theorem ip152 : IP 152 = some ir152 := rfl
def rQ152 (C : Nat → List V → H → Rr) (k : Nat) : X → E → H → Rr := Qrr rs152
def rK152 (C : Nat → List V → H → Rr) (k : Nat) (x0 x1 : V) (h : H) : Rr := (rB (vBox x1 h) fun r1 => (rB (vNilc x0) fun v2 => (rB (vFa 1 v2) fun v3 => (rB (vLd1 r1.2 v3) fun v4 => (rB (some (.fn 194 [r1.1])) fun v5 => (rK (C 193 [v4, v5] r1.2) fun v6 h7 => (some (v6, h7))))))))
theorem rp152 (C : Nat → List V → H → Rr) (k : Nat) : dn C k c152 (rQ152 C k) = fun e h => (rK152 C k (e 0) (e 1) h) := by kernel_rfl
def F152 : RF := fun C k a h => match a with
  | [a0, a1] => rK152 C k a0 a1 h
  | _ => none
theorem ro152 : RunOK IP 152 F152 := ⟨ir152, ip152, by kernel_rfl, fun C k a h r e => by
  unfold F152 at e
  split at e
  · exact ⟨by kernel_rfl, (congrFun (congrFun (rp152 C k) _) h).trans e⟩
  · cases e⟩
theorem ip153 : IP 153 = some ir153 := rfl
def rQ153 (C : Nat → List V → H → Rr) (k : Nat) : X → E → H → Rr := Qrr rs153
def rQ153_1 (C : Nat → List V → H → Rr) (k : Nat) : X → E → H → Rr := (rQ153 C k)
def rQ153_2 (C : Nat → List V → H → Rr) (k : Nat) : X → E → H → Rr := (rQ153_1 C k)
def rQ153_3 (C : Nat → List V → H → Rr) (k : Nat) : X → E → H → Rr := (Qbr 0 (rQ153_2 C k))
def rK153_3 (C : Nat → List V → H → Rr) (k : Nat) (x0 x3 x7 x76 : V) (h : H) : Rr := (rS x76 (rB (vLdA h 11 x3) fun v1 => (rK (C 198 [v1, (.i .i64 2), x7] h) fun v2 h3 => (rK (C 70 [x0, v2] h3) fun v4 h5 => (some ((.tup []), h5))))) (rB (vLdA h 11 x3) fun v6 => (rK (C 198 [v6, (.i .i64 7), (.i .u32 1)] h) fun v7 h8 => (rK (C 70 [x0, v7] h8) fun v9 h10 => (some ((.tup []), h10))))))
def rJ153_3 (C : Nat → List V → H → Rr) (k : Nat) : E → H → Rr := fun e h => (rK153_3 C k (e 0) (e 3) (e 7) (e 76) h)
theorem rp153_3 (C : Nat → List V → H → Rr) (k : Nat) : dn C k c153_3 (rQ153_3 C k) = (rJ153_3 C k) := by kernel_rfl
def rS153_7 (C : Nat → List V → H → Rr) (k : Nat) : E → H → Rr := ((Qxr (rJ153_3 C k) (Qbr 0 (rQ153_2 C k))) X.normal)
def rK153_7 (C : Nat → List V → H → Rr) (k : Nat) (x0 x3 x7 x74 x75 : V) (h : H) : Rr := (rB (vPick x74 x75 (.b false)) fun v1 => (rK153_3 C k x0 x3 x7 v1 h))
def rJ153_7 (C : Nat → List V → H → Rr) (k : Nat) : E → H → Rr := fun e h => (rK153_7 C k (e 0) (e 3) (e 7) (e 74) (e 75) h)
theorem rp153_7 (C : Nat → List V → H → Rr) (k : Nat) : dnOps C o153_4 (rS153_7 C k) = (rJ153_7 C k) := by
  refine Eq.trans (rapp_eq rfl rfl) ?_
  kernel_rfl
def rK153_2 (C : Nat → List V → H → Rr) (k : Nat) (x0 x3 x6 : V) (h : H) : Rr := (rB (vNilc x0) fun v1 => (rB (vFa 5 v1) fun v2 => (rB (vLd1 h v2) fun v3 => (rB (vLdA h 11 x3) fun v4 => (rK (C 199 [v3, v4] h) fun v5 h6 => (rB (bin .eql v5 (.i .i64 0)) fun v7 => (rS v7 (rB (vNilc x0) fun v8 => (rB (vFa 4 v8) fun v9 => (rB (vLd1 h6 v9) fun v10 => (rB (vIa 1 v10 x6) fun v11 => (rB (vLd1 h6 v11) fun v12 => (rB (vLdA h6 11 x3) fun v13 => (rK (C 200 [v12, v13] h6) fun v14 h15 => (some ((.tup []), h15))))))))) (rB (bin .eql v5 (.i .i64 3)) fun v16 => (rS v16 (rB (vNilc x0) fun v17 => (rB (vFa 5 v17) fun v18 => (rB (vLd1 h6 v18) fun v19 => (rB (vLdA h6 11 x3) fun v20 => (rK (C 201 [v19, v20] h6) fun v21 h22 => (rB (vExt v21 0) fun v23 => (rB (vExt v21 1) fun v24 => (rB (vExt v21 2) fun v25 => (rG v25 true (rK153_7 C k x0 x3 v23 v25 v24 h22) (rK153_7 C k x0 x3 v23 v25 undefV h22)))))))))) (rB (bin .eql v5 (.i .i64 4)) fun v26 => (rS v26 (rB (vLdA h6 11 x3) fun v27 => (rK (C 198 [v27, (.i .i64 7), (.i .u32 3)] h6) fun v28 h29 => (rK (C 70 [x0, v28] h29) fun v30 h31 => (some ((.tup []), h31))))) (some ((.tup []), h6)))))))))))))
def rJ153_2 (C : Nat → List V → H → Rr) (k : Nat) : E → H → Rr := fun e h => (rK153_2 C k (e 0) (e 3) (e 6) h)
theorem rp153_2 (C : Nat → List V → H → Rr) (k : Nat) : dn C k c153_2 (rQ153_2 C k) = (rJ153_2 C k) := by
  refine Eq.trans (rseq_eq (rblock_eq (rseq_eq (rcond_eq rfl (rseq_eq (rcond_eq (rseq_eq (rseq_eq (rp153_3 C k) (rregion_eq (rapp_eq (rgrp_eq2 74 true rfl (rp153_7 C k) rfl) rfl))) rfl) rfl) rfl)) rfl)) rfl) ?_
  kernel_rfl
def rQ153_8 (C : Nat → List V → H → Rr) (k : Nat) : X → E → H → Rr := (Qxr (rJ153_2 C k) (rQ153_1 C k))
def rK153_8 (C : Nat → List V → H → Rr) (k : Nat) (x0 x3 x6 x39 : V) (h : H) : Rr := (rS x39 (rB (vLdA h 11 x3) fun v1 => (rK (C 198 [v1, (.i .i64 7), (.i .u32 3)] h) fun v2 h3 => (rK (C 70 [x0, v2] h3) fun v4 h5 => (some ((.tup []), h5))))) (rK153_2 C k x0 x3 x6 h))
def rJ153_8 (C : Nat → List V → H → Rr) (k : Nat) : E → H → Rr := fun e h => (rK153_8 C k (e 0) (e 3) (e 6) (e 39) h)
theorem rp153_8 (C : Nat → List V → H → Rr) (k : Nat) : dn C k c153_8 (rQ153_8 C k) = (rJ153_8 C k) := by kernel_rfl
def rS153_12 (C : Nat → List V → H → Rr) (k : Nat) : E → H → Rr := ((Qxr (rJ153_8 C k) (Qxr (rJ153_2 C k) (rQ153_1 C k))) X.normal)
def rK153_12 (C : Nat → List V → H → Rr) (k : Nat) (x0 x3 x6 x35 x38 : V) (h : H) : Rr := (rB (vPick x35 x38 (.b false)) fun v1 => (rK153_8 C k x0 x3 x6 v1 h))
def rJ153_12 (C : Nat → List V → H → Rr) (k : Nat) : E → H → Rr := fun e h => (rK153_12 C k (e 0) (e 3) (e 6) (e 35) (e 38) h)
theorem rp153_12 (C : Nat → List V → H → Rr) (k : Nat) : dnOps C o153_9 (rS153_12 C k) = (rJ153_12 C k) := by
  refine Eq.trans (rapp_eq rfl rfl) ?_
  kernel_rfl
def rK153_1 (C : Nat → List V → H → Rr) (k : Nat) (x0 x3 x6 : V) (h : H) : Rr := (rB (bin .lss x6 (.i .i64 0)) fun v1 => (rG v1 true (rB (vFa 7 x3) fun v2 => (rB (vLd1 h v2) fun v3 => (rB (un .not v3) fun v4 => (rK153_12 C k x0 x3 x6 v1 v4 h)))) (rK153_12 C k x0 x3 x6 v1 undefV h)))
def rJ153_1 (C : Nat → List V → H → Rr) (k : Nat) : E → H → Rr := fun e h => (rK153_1 C k (e 0) (e 3) (e 6) h)
theorem rp153_1 (C : Nat → List V → H → Rr) (k : Nat) : dn C k c153_1 (rQ153_1 C k) = (rJ153_1 C k) := by
  refine Eq.trans (rseq_eq (rp153_2 C k) (rseq_eq (rp153_8 C k) (rregion_eq (rapp_eq (rgrp_eq2 35 true rfl (rp153_12 C k) rfl) rfl)))) ?_
  kernel_rfl
def rQ153_13 (C : Nat → List V → H → Rr) (k : Nat) : X → E → H → Rr := (Qxr (rJ153_1 C k) (rQ153 C k))
def rK153_13 (C : Nat → List V → H → Rr) (k : Nat) (x0 x3 x6 x28 : V) (h : H) : Rr := (rS x28 (rB (vLdA h 11 x3) fun v1 => (rK (C 198 [v1, (.i .i64 7), (.i .u32 3)] h) fun v2 h3 => (rK (C 70 [x0, v2] h3) fun v4 h5 => (some ((.tup []), h5))))) (rK153_1 C k x0 x3 x6 h))
def rJ153_13 (C : Nat → List V → H → Rr) (k : Nat) : E → H → Rr := fun e h => (rK153_13 C k (e 0) (e 3) (e 6) (e 28) h)
theorem rp153_13 (C : Nat → List V → H → Rr) (k : Nat) : dn C k c153_13 (rQ153_13 C k) = (rJ153_13 C k) := by kernel_rfl
def rS153_17 (C : Nat → List V → H → Rr) (k : Nat) : E → H → Rr := ((Qxr (rJ153_13 C k) (Qxr (rJ153_1 C k) (rQ153 C k))) X.normal)
def rK153_17 (C : Nat → List V → H → Rr) (k : Nat) (x0 x3 x6 x20 x27 : V) (h : H) : Rr := (rB (vPick x20 x27 (.b false)) fun v1 => (rK153_13 C k x0 x3 x6 v1 h))
def rJ153_17 (C : Nat → List V → H → Rr) (k : Nat) : E → H → Rr := fun e h => (rK153_17 C k (e 0) (e 3) (e 6) (e 20) (e 27) h)
theorem rp153_17 (C : Nat → List V → H → Rr) (k : Nat) : dnOps C o153_14 (rS153_17 C k) = (rJ153_17 C k) := by
  refine Eq.trans (rapp_eq rfl rfl) ?_
  kernel_rfl
def rK153 (C : Nat → List V → H → Rr) (k : Nat) (x0 x1 : V) (h : H) : Rr := (rB (vBox x1 h) fun r1 => (rK (C 195 [x0] r1.2) fun v2 h3 => (rB (vExt v2 0) fun v4 => (rB (vExt v2 1) fun v5 => (rK (C 196 [v4, v5] h3) fun v6 h7 => (rB (bin .lss v6 (.i .i64 0)) fun v8 => (rG v8 true (rB (vNilc x0) fun v9 => (rB (vFa 5 v9) fun v10 => (rB (vLd1 h7 v10) fun v11 => (rB (vLdA h7 11 r1.1) fun v12 => (rK (C 197 [v11, v12] h7) fun v13 h14 => (rB (bin .eql v13 (.i .i64 0)) fun v15 => (rK153_17 C k x0 r1.1 v6 v8 v15 h14))))))) (rK153_17 C k x0 r1.1 v6 v8 undefV h7))))))))
theorem rp153 (C : Nat → List V → H → Rr) (k : Nat) : dn C k c153 (rQ153 C k) = fun e h => (rK153 C k (e 0) (e 1) h) := by
  refine Eq.trans (rseq_eq (rseq_eq (rseq_eq (rseq_eq (rp153_1 C k) (rseq_eq (rp153_13 C k) (rdraw0_eq (rapp_eq (rgrp_eq2 20 true rfl (rp153_17 C k) rfl) rfl)))) rfl) rfl) rfl) ?_
  kernel_rfl
def F153 : RF := fun C k a h => match a with
  | [a0, a1] => rK153 C k a0 a1 h
  | _ => none
theorem ro153 : RunOK IP 153 F153 := ⟨ir153, ip153, by kernel_rfl, fun C k a h r e => by
  unfold F153 at e
  split at e
  · exact ⟨by kernel_rfl, (congrFun (congrFun (rp153 C k) _) h).trans e⟩
  · cases e⟩
theorem ip157 : IP 157 = some ir157 := rfl
def rQ157 (C : Nat → List V → H → Rr) (k : Nat) : X → E → H → Rr := Qrr rs157
def rK157 (C : Nat → List V → H → Rr) (k : Nat) (x0 x1 : V) (h : H) : Rr := (rK (C 207 [x0, x1] h) fun v1 h2 => (rB (bin .geq v1 (.i .i64 0)) fun v3 => (some (v3, h2))))
theorem rp157 (C : Nat → List V → H → Rr) (k : Nat) : dn C k c157 (rQ157 C k) = fun e h => (rK157 C k (e 0) (e 1) h) := by kernel_rfl
def F157 : RF := fun C k a h => match a with
  | [a0, a1] => rK157 C k a0 a1 h
  | _ => none
theorem ro157 : RunOK IP 157 F157 := ⟨ir157, ip157, by kernel_rfl, fun C k a h r e => by
  unfold F157 at e
  split at e
  · exact ⟨by kernel_rfl, (congrFun (congrFun (rp157 C k) _) h).trans e⟩
  · cases e⟩
theorem ip193 : IP 193 = some ir193 := rfl
def rQ193 (C : Nat → List V → H → Rr) (k : Nat) : X → E → H → Rr := Qrr rs193
def rQ193_1 (C : Nat → List V → H → Rr) (k : Nat) : X → E → H → Rr := (rQ193 C k)
def rK193_1 (C : Nat → List V → H → Rr) (k : Nat) (h : H) : Rr := (some ((.i .i64 (-1)), h))
def rJ193_1 (C : Nat → List V → H → Rr) (k : Nat) : E → H → Rr := fun e h => (rK193_1 C k h)
theorem rp193_1 (C : Nat → List V → H → Rr) (k : Nat) : dn C k c193_1 (rQ193_1 C k) = (rJ193_1 C k) := by kernel_rfl
def rR193_2 (C : Nat → List V → H → Rr) (k : Nat) : X → E → H → Rr := (Qbr 0 (Qxr (rJ193_1 C k) (rQ193 C k)))
def rQ193_2 (C : Nat → List V → H → Rr) (k : Nat) (g193_2 : V → V → V → V → H → Rr) : X → E → H → Rr := Qxr (fun e h => g193_2 (e 0) (e 1) (e 7) (e 8) h) (rR193_2 C k)
def rL193_2 (C : Nat → List V → H → Rr) (k : Nat) (g193_2 : V → V → V → V → H → Rr) (x0 x1 x7 x8 : V) (h : H) : Rr := (rB (bin .lss x8 x7) fun v1 => (rS v1 (rB (vIa 7 x0 x8) fun v2 => (rB (vLdA h 7 v2) fun v3 => (rK (rV C x1 [v3] h) fun v4 h5 => (rS v4 (some (x8, h5)) (rB (bin .add x8 (.i .i64 1)) fun v6 => (g193_2 x0 x1 x7 v6 h5)))))) (rK193_1 C k h)))
theorem rp193_2 (C : Nat → List V → H → Rr) (k : Nat) (g193_2 : V → V → V → V → H → Rr) : dn C k c193_2 (rQ193_2 C k g193_2) = fun e h => (rL193_2 C k g193_2 (e 0) (e 1) (e 7) (e 8) h) := by kernel_rfl
def rW193_2 (C : Nat → List V → H → Rr) (k : Nat) (x0 x1 x7 x8 : V) (h : H) : Rr := rFix k (fun (g : V × V × V × V × Unit → H → Rr) (x : V × V × V × V × Unit) h => rL193_2 C k (fun y0 y1 y7 y8 h => g (y0, y1, y7, y8, ()) h) x.1 x.2.1 x.2.2.1 x.2.2.2.1 h) (x0, x1, x7, x8, ()) h
theorem rn193_2 (C : Nat → List V → H → Rr) (k : Nat) : ∀ g : V × V × V × V × Unit → H → Rr, dn C k c193_2 (Qxr (fun e h => g ((fun e : E => ((e 0, e 1, e 7, e 8, ()) : V × V × V × V × Unit)) e) h) (rR193_2 C k)) = fun e h => (fun (g : V × V × V × V × Unit → H → Rr) (x : V × V × V × V × Unit) h => rL193_2 C k (fun y0 y1 y7 y8 h => g (y0, y1, y7, y8, ()) h) x.1 x.2.1 x.2.2.1 x.2.2.2.1 h) g ((fun e : E => ((e 0, e 1, e 7, e 8, ()) : V × V × V × V × Unit)) e) h := fun g => rp193_2 C k (fun y0 y1 y7 y8 h => g (y0, y1, y7, y8, ()) h)
theorem rw193_2 (C : Nat → List V → H → Rr) (k : Nat) : dn C k (.loop c193_2) (rR193_2 C k) = fun e h => (rW193_2 C k (e 0) (e 1) (e 7) (e 8) h) := rloop_eq (fun e : E => ((e 0, e 1, e 7, e 8, ()) : V × V × V × V × Unit)) (fun (g : V × V × V × V × Unit → H → Rr) (x : V × V × V × V × Unit) h => rL193_2 C k (fun y0 y1 y7 y8 h => g (y0, y1, y7, y8, ()) h) x.1 x.2.1 x.2.2.1 x.2.2.2.1 h) (rn193_2 C k)
def rK193 (C : Nat → List V → H → Rr) (k : Nat) (x0 x1 : V) (h : H) : Rr := (rB (vLens x0) fun v1 => (rW193_2 C k x0 x1 v1 (.i .i64 0) h))
theorem rp193 (C : Nat → List V → H → Rr) (k : Nat) : dn C k c193 (rQ193 C k) = fun e h => (rK193 C k (e 0) (e 1) h) := by
  refine Eq.trans (rseq_eq (rseq_eq (rp193_1 C k) (rseq_eq (rblock_eq (rw193_2 C k)) rfl)) rfl) ?_
  kernel_rfl
def F193 : RF := fun C k a h => match a with
  | [a0, a1] => rK193 C k a0 a1 h
  | _ => none
theorem ro193 : RunOK IP 193 F193 := ⟨ir193, ip193, by kernel_rfl, fun C k a h r e => by
  unfold F193 at e
  split at e
  · exact ⟨by kernel_rfl, (congrFun (congrFun (rp193 C k) _) h).trans e⟩
  · cases e⟩
theorem ip194 : IP 194 = some ir194 := rfl
def rQ194 (C : Nat → List V → H → Rr) (k : Nat) : X → E → H → Rr := Qrr rs194
def rK194 (C : Nat → List V → H → Rr) (k : Nat) (x0 x1 : V) (h : H) : Rr := (rB (vBox x0 h) fun r1 => (rB (vFa 0 r1.1) fun v2 => (rB (vLdA r1.2 2 v2) fun v3 => (rB (vFa 1 x1) fun v4 => (rB (vLd1 r1.2 v4) fun v5 => (rB (vFa 5 x1) fun v6 => (rB (vLd1 r1.2 v6) fun v7 => (rB (vBld [(.i .i64 0), (.i .u32 0)] [(0, 1, v5), (1, 1, v7)]) fun v8 => (rB (vEqa false [.i, .i] v3 v8) fun v9 => (some (v9, r1.2)))))))))))
theorem rp194 (C : Nat → List V → H → Rr) (k : Nat) : dn C k c194 (rQ194 C k) = fun e h => (rK194 C k (e 0) (e 1) h) := by kernel_rfl
def F194 : RF := fun C k a h => match a with
  | [a0, a1] => rK194 C k a0 a1 h
  | _ => none
theorem ro194 : RunOK IP 194 F194 := ⟨ir194, ip194, by kernel_rfl, fun C k a h r e => by
  unfold F194 at e
  split at e
  · exact ⟨by kernel_rfl, (congrFun (congrFun (rp194 C k) _) h).trans e⟩
  · cases e⟩
theorem ip195 : IP 195 = some ir195 := rfl
def rQ195 (C : Nat → List V → H → Rr) (k : Nat) : X → E → H → Rr := Qrr rs195
def rQ195_1 (C : Nat → List V → H → Rr) (k : Nat) : X → E → H → Rr := (rQ195 C k)
def rK195_1 (C : Nat → List V → H → Rr) (k : Nat) (x0 x4 : V) (h : H) : Rr := (rB (vNilc x0) fun v1 => (rB (vFa 4 v1) fun v2 => (rB (vLd1 h v2) fun v3 => (rB (vIa 1 v3 (.i .i64 0)) fun v4 => (rB (vLd1 h v4) fun v5 => (rK (C 241 [v5] h) fun v6 h7 => (some ((.tup [x4, v6]), h7))))))))
def rJ195_1 (C : Nat → List V → H → Rr) (k : Nat) : E → H → Rr := fun e h => (rK195_1 C k (e 0) (e 4) h)
theorem rp195_1 (C : Nat → List V → H → Rr) (k : Nat) : dn C k c195_1 (rQ195_1 C k) = (rJ195_1 C k) := by kernel_rfl
def rR195_2 (C : Nat → List V → H → Rr) (k : Nat) : X → E → H → Rr := (Qbr 0 (Qxr (rJ195_1 C k) (rQ195 C k)))
def rQ195_2 (C : Nat → List V → H → Rr) (k : Nat) (g195_2 : V → V → V → V → V → H → Rr) : X → E → H → Rr := Qxr (fun e h => g195_2 (e 0) (e 4) (e 10) (e 11) (e 12) h) (rR195_2 C k)
def rL195_2 (C : Nat → List V → H → Rr) (k : Nat) (g195_2 : V → V → V → V → V → H → Rr) (x0 x4 x10 x11 x12 : V) (h : H) : Rr := (rB (bin .lss x12 x11) fun v1 => (rS v1 (rB (vIa 1 x10 x12) fun v2 => (rB (vLd1 h v2) fun v3 => (rK (C 202 [v3] h) fun v4 h5 => (rB (vNewSl 1 [(.i .i64 0)] [(0, 1, v4)] h5) fun r6 => (rB (vApp 1 8 x4 r6.1 r6.2) fun r7 => (rB (bin .add x12 (.i .i64 1)) fun v8 => (g195_2 x0 r7.1 x10 x11 v8 r7.2))))))) (rK195_1 C k x0 x4 h)))
theorem rp195_2 (C : Nat → List V → H → Rr) (k : Nat) (g195_2 : V → V → V → V → V → H → Rr) : dn C k c195_2 (rQ195_2 C k g195_2) = fun e h => (rL195_2 C k g195_2 (e 0) (e 4) (e 10) (e 11) (e 12) h) := by kernel_rfl
def rW195_2 (C : Nat → List V → H → Rr) (k : Nat) (x0 x4 x10 x11 x12 : V) (h : H) : Rr := rFix k (fun (g : V × V × V × V × V × Unit → H → Rr) (x : V × V × V × V × V × Unit) h => rL195_2 C k (fun y0 y4 y10 y11 y12 h => g (y0, y4, y10, y11, y12, ()) h) x.1 x.2.1 x.2.2.1 x.2.2.2.1 x.2.2.2.2.1 h) (x0, x4, x10, x11, x12, ()) h
theorem rn195_2 (C : Nat → List V → H → Rr) (k : Nat) : ∀ g : V × V × V × V × V × Unit → H → Rr, dn C k c195_2 (Qxr (fun e h => g ((fun e : E => ((e 0, e 4, e 10, e 11, e 12, ()) : V × V × V × V × V × Unit)) e) h) (rR195_2 C k)) = fun e h => (fun (g : V × V × V × V × V × Unit → H → Rr) (x : V × V × V × V × V × Unit) h => rL195_2 C k (fun y0 y4 y10 y11 y12 h => g (y0, y4, y10, y11, y12, ()) h) x.1 x.2.1 x.2.2.1 x.2.2.2.1 x.2.2.2.2.1 h) g ((fun e : E => ((e 0, e 4, e 10, e 11, e 12, ()) : V × V × V × V × V × Unit)) e) h := fun g => rp195_2 C k (fun y0 y4 y10 y11 y12 h => g (y0, y4, y10, y11, y12, ()) h)
theorem rw195_2 (C : Nat → List V → H → Rr) (k : Nat) : dn C k (.loop c195_2) (rR195_2 C k) = fun e h => (rW195_2 C k (e 0) (e 4) (e 10) (e 11) (e 12) h) := rloop_eq (fun e : E => ((e 0, e 4, e 10, e 11, e 12, ()) : V × V × V × V × V × Unit)) (fun (g : V × V × V × V × V × Unit → H → Rr) (x : V × V × V × V × V × Unit) h => rL195_2 C k (fun y0 y4 y10 y11 y12 h => g (y0, y4, y10, y11, y12, ()) h) x.1 x.2.1 x.2.2.1 x.2.2.2.1 x.2.2.2.2.1 h) (rn195_2 C k)
def rK195 (C : Nat → List V → H → Rr) (k : Nat) (x0 : V) (h : H) : Rr := (rB (vNilc x0) fun v1 => (rB (vFa 4 v1) fun v2 => (rB (vLd1 h v2) fun v3 => (rB (vLens v3) fun v4 => (rW195_2 C k x0 V.nsl v3 v4 (.i .i64 0) h)))))
theorem rp195 (C : Nat → List V → H → Rr) (k : Nat) : dn C k c195 (rQ195 C k) = fun e h => (rK195 C k (e 0) h) := by
  refine Eq.trans (rseq_eq (rseq_eq (rseq_eq (rp195_1 C k) (rseq_eq (rblock_eq (rw195_2 C k)) rfl)) rfl) rfl) ?_
  kernel_rfl
def F195 : RF := fun C k a h => match a with
  | [a0] => rK195 C k a0 h
  | _ => none
theorem ro195 : RunOK IP 195 F195 := ⟨ir195, ip195, by kernel_rfl, fun C k a h r e => by
  unfold F195 at e
  split at e
  · exact ⟨by kernel_rfl, (congrFun (congrFun (rp195 C k) _) h).trans e⟩
  · cases e⟩
theorem ip196 : IP 196 = some ir196 := rfl
def rQ196 (C : Nat → List V → H → Rr) (k : Nat) : X → E → H → Rr := Qrr rs196
def rQ196_1 (C : Nat → List V → H → Rr) (k : Nat) : X → E → H → Rr := (rQ196 C k)
def rK196_1 (C : Nat → List V → H → Rr) (k : Nat) (x5 : V) (h : H) : Rr := (some (x5, h))
def rJ196_1 (C : Nat → List V → H → Rr) (k : Nat) : E → H → Rr := fun e h => (rK196_1 C k (e 5) h)
theorem rp196_1 (C : Nat → List V → H → Rr) (k : Nat) : dn C k c196_1 (rQ196_1 C k) = (rJ196_1 C k) := by kernel_rfl
def rR196_2 (C : Nat → List V → H → Rr) (k : Nat) : X → E → H → Rr := (Qbr 0 (Qxr (rJ196_1 C k) (rQ196 C k)))
def rQ196_2 (C : Nat → List V → H → Rr) (k : Nat) (g196_2 : V → V → V → V → V → V → H → Rr) : X → E → H → Rr := Qxr (fun e h => g196_2 (e 0) (e 1) (e 5) (e 8) (e 9) (e 10) h) (rR196_2 C k)
def rQ196_3 (C : Nat → List V → H → Rr) (k : Nat) (g196_2 : V → V → V → V → V → V → H → Rr) : X → E → H → Rr := (rQ196_2 C k g196_2)
def rK196_3 (C : Nat → List V → H → Rr) (k : Nat) (g196_2 : V → V → V → V → V → V → H → Rr) (x0 x1 x5 x8 x9 x10 : V) (h : H) : Rr := (rB (bin .add x10 (.i .i64 1)) fun v1 => (g196_2 x0 x1 x5 x8 x9 v1 h))
def rJ196_3 (C : Nat → List V → H → Rr) (k : Nat) (g196_2 : V → V → V → V → V → V → H → Rr) : E → H → Rr := fun e h => (rK196_3 C k g196_2 (e 0) (e 1) (e 5) (e 8) (e 9) (e 10) h)
theorem rp196_3 (C : Nat → List V → H → Rr) (k : Nat) (g196_2 : V → V → V → V → V → V → H → Rr) : dn C k c196_3 (rQ196_3 C k g196_2) = (rJ196_3 C k g196_2) := by kernel_rfl
def rQ196_4 (C : Nat → List V → H → Rr) (k : Nat) (g196_2 : V → V → V → V → V → V → H → Rr) : X → E → H → Rr := (Qbr 1 (Qxr (rJ196_3 C k g196_2) (rQ196_2 C k g196_2)))
def rK196_4 (C : Nat → List V → H → Rr) (k : Nat) (g196_2 : V → V → V → V → V → V → H → Rr) (x0 x1 x5 x6 x8 x9 x10 x29 : V) (h : H) : Rr := (rS x29 (rK196_3 C k g196_2 x0 x1 x6 x8 x9 x10 h) (rK196_3 C k g196_2 x0 x1 x5 x8 x9 x10 h))
def rJ196_4 (C : Nat → List V → H → Rr) (k : Nat) (g196_2 : V → V → V → V → V → V → H → Rr) : E → H → Rr := fun e h => (rK196_4 C k g196_2 (e 0) (e 1) (e 5) (e 6) (e 8) (e 9) (e 10) (e 29) h)
theorem rp196_4 (C : Nat → List V → H → Rr) (k : Nat) (g196_2 : V → V → V → V → V → V → H → Rr) : dn C k c196_4 (rQ196_4 C k g196_2) = (rJ196_4 C k g196_2) := by kernel_rfl
def rS196_10 (C : Nat → List V → H → Rr) (k : Nat) (g196_2 : V → V → V → V → V → V → H → Rr) : E → H → Rr := ((Qxr (rJ196_4 C k g196_2) (Qbr 1 (Qxr (rJ196_3 C k g196_2) (rQ196_2 C k g196_2)))) X.normal)
def rK196_10 (C : Nat → List V → H → Rr) (k : Nat) (g196_2 : V → V → V → V → V → V → H → Rr) (x0 x1 x5 x6 x8 x9 x10 x18 x28 : V) (h : H) : Rr := (rB (vPick x18 x28 (.b false)) fun v1 => (rK196_4 C k g196_2 x0 x1 x5 x6 x8 x9 x10 v1 h))
def rJ196_10 (C : Nat → List V → H → Rr) (k : Nat) (g196_2 : V → V → V → V → V → V → H → Rr) : E → H → Rr := fun e h => (rK196_10 C k g196_2 (e 0) (e 1) (e 5) (e 6) (e 8) (e 9) (e 10) (e 18) (e 28) h)
theorem rp196_10 (C : Nat → List V → H → Rr) (k : Nat) (g196_2 : V → V → V → V → V → V → H → Rr) : dnOps C o196_5 (rS196_10 C k g196_2) = (rJ196_10 C k g196_2) := by
  refine Eq.trans (rapp_eq rfl rfl) ?_
  kernel_rfl
def rS196_11 (C : Nat → List V → H → Rr) (k : Nat) (g196_2 : V → V → V → V → V → V → H → Rr) : E → H → Rr := ((Qxr (rJ196_4 C k g196_2) (Qbr 1 (Qxr (rJ196_3 C k g196_2) (rQ196_2 C k g196_2)))) X.normal)
def rK196_11 (C : Nat → List V → H → Rr) (k : Nat) (g196_2 : V → V → V → V → V → V → H → Rr) (x0 x1 x5 x6 x8 x9 x10 x18 x21 x27 : V) (h : H) : Rr := (rG x18 true (rB (vPick x21 (.b true) x27) fun v1 => (rK196_10 C k g196_2 x0 x1 x5 x6 x8 x9 x10 x18 v1 h)) (rK196_10 C k g196_2 x0 x1 x5 x6 x8 x9 x10 x18 undefV h))
def rJ196_11 (C : Nat → List V → H → Rr) (k : Nat) (g196_2 : V → V → V → V → V → V → H → Rr) : E → H → Rr := fun e h => (rK196_11 C k g196_2 (e 0) (e 1) (e 5) (e 6) (e 8) (e 9) (e 10) (e 18) (e 21) (e 27) h)
theorem rp196_11 (C : Nat → List V → H → Rr) (k : Nat) (g196_2 : V → V → V → V → V → V → H → Rr) : dnOps C o196_6 (rS196_11 C k g196_2) = (rJ196_11 C k g196_2) := by
  refine Eq.trans (rgrp_eq2 18 true rfl (rp196_10 C k g196_2) rfl) ?_
  kernel_rfl
def rS196_12 (C : Nat → List V → H → Rr) (k : Nat) (g196_2 : V → V → V → V → V → V → H → Rr) : E → H → Rr := ((Qxr (rJ196_4 C k g196_2) (Qbr 1 (Qxr (rJ196_3 C k g196_2) (rQ196_2 C k g196_2)))) X.normal)
def rK196_12 (C : Nat → List V → H → Rr) (k : Nat) (g196_2 : V → V → V → V → V → V → H → Rr) (x0 x1 x5 x6 x7 x8 x9 x10 x18 x21 : V) (h : H) : Rr := (rG x21 false (rB (vIa 1 x0 x5) fun v1 => (rB (vLd1 h v1) fun v2 => (rB (bin .lss x7 v2) fun v3 => (rK196_11 C k g196_2 x0 x1 x5 x6 x8 x9 x10 x18 x21 v3 h)))) (rK196_11 C k g196_2 x0 x1 x5 x6 x8 x9 x10 x18 x21 undefV h))
def rJ196_12 (C : Nat → List V → H → Rr) (k : Nat) (g196_2 : V → V → V → V → V → V → H → Rr) : E → H → Rr := fun e h => (rK196_12 C k g196_2 (e 0) (e 1) (e 5) (e 6) (e 7) (e 8) (e 9) (e 10) (e 18) (e 21) h)
theorem rp196_12 (C : Nat → List V → H → Rr) (k : Nat) (g196_2 : V → V → V → V → V → V → H → Rr) : dnOps C o196_7 (rS196_12 C k g196_2) = (rJ196_12 C k g196_2) := by
  refine Eq.trans (rgrp_eq2 21 false rfl (rp196_11 C k g196_2) rfl) ?_
  kernel_rfl
def rL196_2 (C : Nat → List V → H → Rr) (k : Nat) (g196_2 : V → V → V → V → V → V → H → Rr) (x0 x1 x5 x8 x9 x10 : V) (h : H) : Rr := (rB (bin .lss x10 x9) fun v1 => (rS v1 (rB (vIa 1 x8 x10) fun v2 => (rB (vLd1 h v2) fun v3 => (rB (bin .lss v3 x1) fun v4 => (rG v4 true (rB (bin .lss x5 (.i .i64 0)) fun v5 => (rK196_12 C k g196_2 x0 x1 x5 x10 v3 x8 x9 x10 v4 v5 h)) (rK196_12 C k g196_2 x0 x1 x5 x10 v3 x8 x9 x10 v4 undefV h))))) (rK196_1 C k x5 h)))
theorem rp196_2 (C : Nat → List V → H → Rr) (k : Nat) (g196_2 : V → V → V → V → V → V → H → Rr) : dn C k c196_2 (rQ196_2 C k g196_2) = fun e h => (rL196_2 C k g196_2 (e 0) (e 1) (e 5) (e 8) (e 9) (e 10) h) := by
  refine Eq.trans (rseq_eq (rseq_eq (rseq_eq (rp196_3 C k g196_2) (rblock_eq (rseq_eq (rseq_eq (rp196_4 C k g196_2) (rregion_eq (rapp_eq (rgrp_eq2 18 true rfl (rp196_12 C k g196_2) rfl) rfl))) rfl))) rfl) rfl) ?_
  kernel_rfl
def rW196_2 (C : Nat → List V → H → Rr) (k : Nat) (x0 x1 x5 x8 x9 x10 : V) (h : H) : Rr := rFix k (fun (g : V × V × V × V × V × V × Unit → H → Rr) (x : V × V × V × V × V × V × Unit) h => rL196_2 C k (fun y0 y1 y5 y8 y9 y10 h => g (y0, y1, y5, y8, y9, y10, ()) h) x.1 x.2.1 x.2.2.1 x.2.2.2.1 x.2.2.2.2.1 x.2.2.2.2.2.1 h) (x0, x1, x5, x8, x9, x10, ()) h
theorem rn196_2 (C : Nat → List V → H → Rr) (k : Nat) : ∀ g : V × V × V × V × V × V × Unit → H → Rr, dn C k c196_2 (Qxr (fun e h => g ((fun e : E => ((e 0, e 1, e 5, e 8, e 9, e 10, ()) : V × V × V × V × V × V × Unit)) e) h) (rR196_2 C k)) = fun e h => (fun (g : V × V × V × V × V × V × Unit → H → Rr) (x : V × V × V × V × V × V × Unit) h => rL196_2 C k (fun y0 y1 y5 y8 y9 y10 h => g (y0, y1, y5, y8, y9, y10, ()) h) x.1 x.2.1 x.2.2.1 x.2.2.2.1 x.2.2.2.2.1 x.2.2.2.2.2.1 h) g ((fun e : E => ((e 0, e 1, e 5, e 8, e 9, e 10, ()) : V × V × V × V × V × V × Unit)) e) h := fun g => rp196_2 C k (fun y0 y1 y5 y8 y9 y10 h => g (y0, y1, y5, y8, y9, y10, ()) h)
theorem rw196_2 (C : Nat → List V → H → Rr) (k : Nat) : dn C k (.loop c196_2) (rR196_2 C k) = fun e h => (rW196_2 C k (e 0) (e 1) (e 5) (e 8) (e 9) (e 10) h) := rloop_eq (fun e : E => ((e 0, e 1, e 5, e 8, e 9, e 10, ()) : V × V × V × V × V × V × Unit)) (fun (g : V × V × V × V × V × V × Unit → H → Rr) (x : V × V × V × V × V × V × Unit) h => rL196_2 C k (fun y0 y1 y5 y8 y9 y10 h => g (y0, y1, y5, y8, y9, y10, ()) h) x.1 x.2.1 x.2.2.1 x.2.2.2.1 x.2.2.2.2.1 x.2.2.2.2.2.1 h) (rn196_2 C k)
def rK196 (C : Nat → List V → H → Rr) (k : Nat) (x0 x1 : V) (h : H) : Rr := (rB (vLens x0) fun v1 => (rW196_2 C k x0 x1 (.i .i64 (-1)) x0 v1 (.i .i64 0) h))
theorem rp196 (C : Nat → List V → H → Rr) (k : Nat) : dn C k c196 (rQ196 C k) = fun e h => (rK196 C k (e 0) (e 1) h) := by
  refine Eq.trans (rseq_eq (rseq_eq (rseq_eq (rp196_1 C k) (rseq_eq (rblock_eq (rw196_2 C k)) rfl)) rfl) rfl) ?_
  kernel_rfl
def F196 : RF := fun C k a h => match a with
  | [a0, a1] => rK196 C k a0 a1 h
  | _ => none
theorem ro196 : RunOK IP 196 F196 := ⟨ir196, ip196, by kernel_rfl, fun C k a h r e => by
  unfold F196 at e
  split at e
  · exact ⟨by kernel_rfl, (congrFun (congrFun (rp196 C k) _) h).trans e⟩
  · cases e⟩
theorem ip199 : IP 199 = some ir199 := rfl
def rQ199 (C : Nat → List V → H → Rr) (k : Nat) : X → E → H → Rr := Qrr rs199
def rQ199_1 (C : Nat → List V → H → Rr) (k : Nat) : X → E → H → Rr := (rQ199 C k)
def rK199_1 (C : Nat → List V → H → Rr) (k : Nat) (x0 x3 : V) (h : H) : Rr := (rB (vLdA h 11 x3) fun v1 => (rK (C 152 [x0, v1] h) fun v2 h3 => (rB (bin .lss v2 (.i .i64 0)) fun v4 => (rS v4 (rB (vNilc x0) fun v5 => (rB (vFa 1 v5) fun v6 => (rB (vLd1 h3 v6) fun v7 => (rB (vLens v7) fun v8 => (rB (vNilc x0) fun v9 => (rB (vFa 0 v9) fun v10 => (rB (vLd1 h3 v10) fun v11 => (rB (bin .geq v8 v11) fun v12 => (rS v12 (some ((.i .i64 4), h3)) (rB (vNilc x0) fun v13 => (rB (vFa 1 v13) fun v14 => (rB (vLd1 h3 v14) fun v15 => (rB (vFa 1 x3) fun v16 => (rB (vLd1 h3 v16) fun v17 => (rB (vFa 5 x3) fun v18 => (rB (vLd1 h3 v18) fun v19 => (rB (vBld [(.i .i64 0), (.i .u32 0)] [(0, 1, v17), (1, 1, v19)]) fun v20 => (rB (vFa 6 x3) fun v21 => (rB (vLd1 h3 v21) fun v22 => (rB (bin .shl (.i .i64 1) v22) fun v23 => (rB (vBld [(.i .i64 0), (.i .u32 0), (.i .i64 0), (.i .i64 0), (.b false), (.b false), (.i .u32 0)] [(0, 2, v20), (2, 1, v23), (3, 1, (.i .i64 1))]) fun v24 => (rB (vNewSl 1 [(.i .i64 0), (.i .u32 0), (.i .i64 0), (.i .i64 0), (.b false), (.b false), (.i .u32 0)] [(0, 7, v24)] h3) fun r25 => (rB (vApp 7 40 v15 r25.1 r25.2) fun r26 => (rB (vNilc x0) fun v27 => (rB (vFa 1 v27) fun v28 => (rB (vStore r26.2 1 v28 r26.1) fun r29 => (some ((.i .i64 0), r29.2)))))))))))))))))))))))))))) (rB (vNilc x0) fun v30 => (rB (vFa 1 v30) fun v31 => (rB (vLd1 h3 v31) fun v32 => (rB (vIa 7 v32 v2) fun v33 => (rB (vNilc v33) fun v34 => (rB (vFa 2 v34) fun v35 => (rB (vLd1 h3 v35) fun v36 => (rB (vFa 6 x3) fun v37 => (rB (vLd1 h3 v37) fun v38 => (rB (bin .shr v36 v38) fun v39 => (rB (bin .and v39 (.i .i64 1)) fun v40 => (rB (bin .eql v40 (.i .i64 1)) fun v41 => (rS v41 (some ((.i .i64 1), h3)) (rB (vNilc v33) fun v42 => (rB (vFa 2 v42) fun v43 => (rB (vLd1 h3 v43) fun v44 => (rB (vFa 6 x3) fun v45 => (rB (vLd1 h3 v45) fun v46 => (rB (bin .shl (.i .i64 1) v46) fun v47 => (rB (bin .or v44 v47) fun v48 => (rB (vNilc v33) fun v49 => (rB (vFa 2 v49) fun v50 => (rB (vStore h3 1 v50 v48) fun r51 => (rB (vFa 7 x3) fun v52 => (rB (vLd1 r51.2 v52) fun v53 => (rB (un .not v53) fun v54 => (rS v54 (rB (vNilc v33) fun v55 => (rB (vFa 3 v55) fun v56 => (rB (vLd1 r51.2 v56) fun v57 => (rB (bin .add v57 (.i .i64 1)) fun v58 => (rB (vNilc v33) fun v59 => (rB (vFa 3 v59) fun v60 => (rB (vStore r51.2 1 v60 v58) fun r61 => (some ((.i .i64 0), r61.2))))))))) (rB (vNilc v33) fun v62 => (rB (vFa 4 v62) fun v63 => (rB (vLd1 r51.2 v63) fun v64 => (rS v64 (some ((.i .i64 3), r51.2)) (some ((.i .i64 2), r51.2)))))))))))))))))))))))))))))))))))))
def rJ199_1 (C : Nat → List V → H → Rr) (k : Nat) : E → H → Rr := fun e h => (rK199_1 C k (e 0) (e 3) h)
theorem rp199_1 (C : Nat → List V → H → Rr) (k : Nat) : dn C k c199_1 (rQ199_1 C k) = (rJ199_1 C k) := by kernel_rfl
def rQ199_2 (C : Nat → List V → H → Rr) (k : Nat) : X → E → H → Rr := (Qxr (rJ199_1 C k) (rQ199 C k))
def rK199_2 (C : Nat → List V → H → Rr) (k : Nat) (x0 x3 x18 : V) (h : H) : Rr := (rS x18 (some ((.i .i64 4), h)) (rK199_1 C k x0 x3 h))
def rJ199_2 (C : Nat → List V → H → Rr) (k : Nat) : E → H → Rr := fun e h => (rK199_2 C k (e 0) (e 3) (e 18) h)
theorem rp199_2 (C : Nat → List V → H → Rr) (k : Nat) : dn C k c199_2 (rQ199_2 C k) = (rJ199_2 C k) := by kernel_rfl
def rS199_8 (C : Nat → List V → H → Rr) (k : Nat) : E → H → Rr := ((Qxr (rJ199_2 C k) (Qxr (rJ199_1 C k) (rQ199 C k))) X.normal)
def rK199_8 (C : Nat → List V → H → Rr) (k : Nat) (x0 x3 x14 x17 : V) (h : H) : Rr := (rB (vPick x14 (.b true) x17) fun v1 => (rK199_2 C k x0 x3 v1 h))
def rJ199_8 (C : Nat → List V → H → Rr) (k : Nat) : E → H → Rr := fun e h => (rK199_8 C k (e 0) (e 3) (e 14) (e 17) h)
theorem rp199_8 (C : Nat → List V → H → Rr) (k : Nat) : dnOps C o199_3 (rS199_8 C k) = (rJ199_8 C k) := by
  refine Eq.trans (rapp_eq rfl rfl) ?_
  kernel_rfl
def rS199_9 (C : Nat → List V → H → Rr) (k : Nat) : E → H → Rr := ((Qxr (rJ199_2 C k) (Qxr (rJ199_1 C k) (rQ199 C k))) X.normal)
def rK199_9 (C : Nat → List V → H → Rr) (k : Nat) (x0 x3 x9 x12 : V) (h : H) : Rr := (rB (vPick x9 (.b true) x12) fun v1 => (rG v1 false (rB (vFa 6 x3) fun v2 => (rB (vLd1 h v2) fun v3 => (rB (bin .gtr v3 (.i .i64 15)) fun v4 => (rK199_8 C k x0 x3 v1 v4 h)))) (rK199_8 C k x0 x3 v1 undefV h)))
def rJ199_9 (C : Nat → List V → H → Rr) (k : Nat) : E → H → Rr := fun e h => (rK199_9 C k (e 0) (e 3) (e 9) (e 12) h)
theorem rp199_9 (C : Nat → List V → H → Rr) (k : Nat) : dnOps C o199_5 (rS199_9 C k) = (rJ199_9 C k) := by
  refine Eq.trans (rapp_eq (rgrp_eq2 14 false rfl (rp199_8 C k) rfl) rfl) ?_
  kernel_rfl
def rK199 (C : Nat → List V → H → Rr) (k : Nat) (x0 x1 : V) (h : H) : Rr := (rB (vBox x1 h) fun r1 => (rB (vEqz false .p x0 (.p none)) fun v2 => (rG v2 false (rB (vFa 6 r1.1) fun v3 => (rB (vLd1 r1.2 v3) fun v4 => (rB (bin .lss v4 (.i .i64 0)) fun v5 => (rK199_9 C k x0 r1.1 v2 v5 r1.2)))) (rK199_9 C k x0 r1.1 v2 undefV r1.2))))
theorem rp199 (C : Nat → List V → H → Rr) (k : Nat) : dn C k c199 (rQ199 C k) = fun e h => (rK199 C k (e 0) (e 1) h) := by
  refine Eq.trans (rseq_eq (rseq_eq (rp199_1 C k) (rseq_eq (rp199_2 C k) (rregion_eq (rapp_eq (rgrp_eq2 9 false rfl (rp199_9 C k) rfl) rfl)))) rfl) ?_
  kernel_rfl
def F199 : RF := fun C k a h => match a with
  | [a0, a1] => rK199 C k a0 a1 h
  | _ => none
theorem ro199 : RunOK IP 199 F199 := ⟨ir199, ip199, by kernel_rfl, fun C k a h r e => by
  unfold F199 at e
  split at e
  · exact ⟨by kernel_rfl, (congrFun (congrFun (rp199 C k) _) h).trans e⟩
  · cases e⟩
theorem ip200 : IP 200 = some ir200 := rfl
def rQ200 (C : Nat → List V → H → Rr) (k : Nat) : X → E → H → Rr := Qrr rs200
def rQ200_1 (C : Nat → List V → H → Rr) (k : Nat) : X → E → H → Rr := (rQ200 C k)
def rK200_1 (C : Nat → List V → H → Rr) (k : Nat) (x0 x3 : V) (h : H) : Rr := (rB (vNilc x0) fun v1 => (rB (vFa 1 v1) fun v2 => (rB (vLd1 h v2) fun v3 => (rB (vLdA h 11 x3) fun v4 => (rB (vNewSl 1 [(.i .i64 0), (.i .i64 0), (.i .i64 0), (.i .i64 0), (.i .i64 0), (.i .u32 0), (.i .i64 0), (.b false), (.b false), (.i .i64 0), (.i .u32 0)] [(0, 11, v4)] h) fun r5 => (rB (vApp 11 80 v3 r5.1 r5.2) fun r6 => (rB (vNilc x0) fun v7 => (rB (vFa 1 v7) fun v8 => (rB (vStore r6.2 1 v8 r6.1) fun r9 => (some ((.b true), r9.2)))))))))))
def rJ200_1 (C : Nat → List V → H → Rr) (k : Nat) : E → H → Rr := fun e h => (rK200_1 C k (e 0) (e 3) h)
theorem rp200_1 (C : Nat → List V → H → Rr) (k : Nat) : dn C k c200_1 (rQ200_1 C k) = (rJ200_1 C k) := by kernel_rfl
def rQ200_2 (C : Nat → List V → H → Rr) (k : Nat) : X → E → H → Rr := (Qxr (rJ200_1 C k) (rQ200 C k))
def rK200_2 (C : Nat → List V → H → Rr) (k : Nat) (x0 x3 x13 : V) (h : H) : Rr := (rS x13 (some ((.b false), h)) (rK200_1 C k x0 x3 h))
def rJ200_2 (C : Nat → List V → H → Rr) (k : Nat) : E → H → Rr := fun e h => (rK200_2 C k (e 0) (e 3) (e 13) h)
theorem rp200_2 (C : Nat → List V → H → Rr) (k : Nat) : dn C k c200_2 (rQ200_2 C k) = (rJ200_2 C k) := by kernel_rfl
def rS200_6 (C : Nat → List V → H → Rr) (k : Nat) : E → H → Rr := ((Qxr (rJ200_2 C k) (Qxr (rJ200_1 C k) (rQ200 C k))) X.normal)
def rK200_6 (C : Nat → List V → H → Rr) (k : Nat) (x0 x3 x7 x12 : V) (h : H) : Rr := (rB (vPick x7 (.b true) x12) fun v1 => (rK200_2 C k x0 x3 v1 h))
def rJ200_6 (C : Nat → List V → H → Rr) (k : Nat) : E → H → Rr := fun e h => (rK200_6 C k (e 0) (e 3) (e 7) (e 12) h)
theorem rp200_6 (C : Nat → List V → H → Rr) (k : Nat) : dnOps C o200_3 (rS200_6 C k) = (rJ200_6 C k) := by
  refine Eq.trans (rapp_eq rfl rfl) ?_
  kernel_rfl
def rK200 (C : Nat → List V → H → Rr) (k : Nat) (x0 x1 : V) (h : H) : Rr := (rB (vBox x1 h) fun r1 => (rB (vEqz false .p x0 (.p none)) fun v2 => (rG v2 false (rK (C 202 [x0] r1.2) fun v3 h4 => (rK (C 241 [x0] h4) fun v5 h6 => (rB (bin .geq v3 v5) fun v7 => (rK200_6 C k x0 r1.1 v2 v7 h6)))) (rK200_6 C k x0 r1.1 v2 undefV r1.2))))
theorem rp200 (C : Nat → List V → H → Rr) (k : Nat) : dn C k c200 (rQ200 C k) = fun e h => (rK200 C k (e 0) (e 1) h) := by
  refine Eq.trans (rseq_eq (rseq_eq (rp200_1 C k) (rseq_eq (rp200_2 C k) (rregion_eq (rapp_eq (rgrp_eq2 7 false rfl (rp200_6 C k) rfl) rfl)))) rfl) ?_
  kernel_rfl
def F200 : RF := fun C k a h => match a with
  | [a0, a1] => rK200 C k a0 a1 h
  | _ => none
theorem ro200 : RunOK IP 200 F200 := ⟨ir200, ip200, by kernel_rfl, fun C k a h r e => by
  unfold F200 at e
  split at e
  · exact ⟨by kernel_rfl, (congrFun (congrFun (rp200 C k) _) h).trans e⟩
  · cases e⟩
theorem ip202 : IP 202 = some ir202 := rfl
def rQ202 (C : Nat → List V → H → Rr) (k : Nat) : X → E → H → Rr := Qrr rs202
def rK202 (C : Nat → List V → H → Rr) (k : Nat) (x0 : V) (h : H) : Rr := (rB (vEqz false .p x0 (.p none)) fun v1 => (rS v1 (some ((.i .i64 0), h)) (rB (vNilc x0) fun v2 => (rB (vFa 2 v2) fun v3 => (rB (vLd1 h v3) fun v4 => (rS v4 (rB (vNilc x0) fun v5 => (rB (vFa 1 v5) fun v6 => (rB (vLd1 h v6) fun v7 => (rB (vLens v7) fun v8 => (rB (bin .add v8 (.i .i64 1)) fun v9 => (some (v9, h))))))) (rB (vNilc x0) fun v10 => (rB (vFa 1 v10) fun v11 => (rB (vLd1 h v11) fun v12 => (rB (vLens v12) fun v13 => (some (v13, h))))))))))))
theorem rp202 (C : Nat → List V → H → Rr) (k : Nat) : dn C k c202 (rQ202 C k) = fun e h => (rK202 C k (e 0) h) := by kernel_rfl
def F202 : RF := fun C k a h => match a with
  | [a0] => rK202 C k a0 h
  | _ => none
theorem ro202 : RunOK IP 202 F202 := ⟨ir202, ip202, by kernel_rfl, fun C k a h r e => by
  unfold F202 at e
  split at e
  · exact ⟨by kernel_rfl, (congrFun (congrFun (rp202 C k) _) h).trans e⟩
  · cases e⟩
theorem ip207 : IP 207 = some ir207 := rfl
def rQ207 (C : Nat → List V → H → Rr) (k : Nat) : X → E → H → Rr := Qrr rs207
def rQ207_1 (C : Nat → List V → H → Rr) (k : Nat) : X → E → H → Rr := (rQ207 C k)
def rK207_1 (C : Nat → List V → H → Rr) (k : Nat) (h : H) : Rr := (some ((.i .i64 (-1)), h))
def rJ207_1 (C : Nat → List V → H → Rr) (k : Nat) : E → H → Rr := fun e h => (rK207_1 C k h)
theorem rp207_1 (C : Nat → List V → H → Rr) (k : Nat) : dn C k c207_1 (rQ207_1 C k) = (rJ207_1 C k) := by kernel_rfl
def rR207_2 (C : Nat → List V → H → Rr) (k : Nat) : X → E → H → Rr := (Qbr 0 (Qxr (rJ207_1 C k) (rQ207 C k)))
def rQ207_2 (C : Nat → List V → H → Rr) (k : Nat) (g207_2 : V → V → V → V → H → Rr) : X → E → H → Rr := Qxr (fun e h => g207_2 (e 0) (e 1) (e 7) (e 8) h) (rR207_2 C k)
def rL207_2 (C : Nat → List V → H → Rr) (k : Nat) (g207_2 : V → V → V → V → H → Rr) (x0 x1 x7 x8 : V) (h : H) : Rr := (rB (bin .lss x8 x7) fun v1 => (rS v1 (rB (vIa 1 x0 x8) fun v2 => (rB (vLd1 h v2) fun v3 => (rB (bin .eql x1 v3) fun v4 => (rS v4 (some (x8, h)) (rB (bin .add x8 (.i .i64 1)) fun v5 => (g207_2 x0 x1 x7 v5 h)))))) (rK207_1 C k h)))
theorem rp207_2 (C : Nat → List V → H → Rr) (k : Nat) (g207_2 : V → V → V → V → H → Rr) : dn C k c207_2 (rQ207_2 C k g207_2) = fun e h => (rL207_2 C k g207_2 (e 0) (e 1) (e 7) (e 8) h) := by kernel_rfl
def rW207_2 (C : Nat → List V → H → Rr) (k : Nat) (x0 x1 x7 x8 : V) (h : H) : Rr := rFix k (fun (g : V × V × V × V × Unit → H → Rr) (x : V × V × V × V × Unit) h => rL207_2 C k (fun y0 y1 y7 y8 h => g (y0, y1, y7, y8, ()) h) x.1 x.2.1 x.2.2.1 x.2.2.2.1 h) (x0, x1, x7, x8, ()) h
theorem rn207_2 (C : Nat → List V → H → Rr) (k : Nat) : ∀ g : V × V × V × V × Unit → H → Rr, dn C k c207_2 (Qxr (fun e h => g ((fun e : E => ((e 0, e 1, e 7, e 8, ()) : V × V × V × V × Unit)) e) h) (rR207_2 C k)) = fun e h => (fun (g : V × V × V × V × Unit → H → Rr) (x : V × V × V × V × Unit) h => rL207_2 C k (fun y0 y1 y7 y8 h => g (y0, y1, y7, y8, ()) h) x.1 x.2.1 x.2.2.1 x.2.2.2.1 h) g ((fun e : E => ((e 0, e 1, e 7, e 8, ()) : V × V × V × V × Unit)) e) h := fun g => rp207_2 C k (fun y0 y1 y7 y8 h => g (y0, y1, y7, y8, ()) h)
theorem rw207_2 (C : Nat → List V → H → Rr) (k : Nat) : dn C k (.loop c207_2) (rR207_2 C k) = fun e h => (rW207_2 C k (e 0) (e 1) (e 7) (e 8) h) := rloop_eq (fun e : E => ((e 0, e 1, e 7, e 8, ()) : V × V × V × V × Unit)) (fun (g : V × V × V × V × Unit → H → Rr) (x : V × V × V × V × Unit) h => rL207_2 C k (fun y0 y1 y7 y8 h => g (y0, y1, y7, y8, ()) h) x.1 x.2.1 x.2.2.1 x.2.2.2.1 h) (rn207_2 C k)
def rK207 (C : Nat → List V → H → Rr) (k : Nat) (x0 x1 : V) (h : H) : Rr := (rB (vLens x0) fun v1 => (rW207_2 C k x0 x1 v1 (.i .i64 0) h))
theorem rp207 (C : Nat → List V → H → Rr) (k : Nat) : dn C k c207 (rQ207 C k) = fun e h => (rK207 C k (e 0) (e 1) h) := by
  refine Eq.trans (rseq_eq (rseq_eq (rp207_1 C k) (rseq_eq (rblock_eq (rw207_2 C k)) rfl)) rfl) ?_
  kernel_rfl
def F207 : RF := fun C k a h => match a with
  | [a0, a1] => rK207 C k a0 a1 h
  | _ => none
theorem ro207 : RunOK IP 207 F207 := ⟨ir207, ip207, by kernel_rfl, fun C k a h r e => by
  unfold F207 at e
  split at e
  · exact ⟨by kernel_rfl, (congrFun (congrFun (rp207 C k) _) h).trans e⟩
  · cases e⟩
theorem ip241 : IP 241 = some ir241 := rfl
def rQ241 (C : Nat → List V → H → Rr) (k : Nat) : X → E → H → Rr := Qrr rs241
def rK241 (C : Nat → List V → H → Rr) (k : Nat) (x0 : V) (h : H) : Rr := (rB (vEqz false .p x0 (.p none)) fun v1 => (rS v1 (some ((.i .i64 0), h)) (rB (vNilc x0) fun v2 => (rB (vFa 0 v2) fun v3 => (rB (vLd1 h v3) fun v4 => (rB (bin .add v4 (.i .i64 1)) fun v5 => (some (v5, h))))))))
theorem rp241 (C : Nat → List V → H → Rr) (k : Nat) : dn C k c241 (rQ241 C k) = fun e h => (rK241 C k (e 0) h) := by kernel_rfl
def F241 : RF := fun C k a h => match a with
  | [a0] => rK241 C k a0 h
  | _ => none
theorem ro241 : RunOK IP 241 F241 := ⟨ir241, ip241, by kernel_rfl, fun C k a h r e => by
  unfold F241 at e
  split at e
  · exact ⟨by kernel_rfl, (congrFun (congrFun (rp241 C k) _) h).trans e⟩
  · cases e⟩
def rtree : Tr RF := (.n (.n (.n (.n (.n (.n (.n (.n .l (some F127) .l) (some F63) .l) none .l) none (.n (.n .l (some F79) (.n .l (some F207) .l)) none (.n .l (some F111) .l))) none (.n (.n (.n .l (some F71) (.n .l (some F199) .l)) none (.n .l (some F103) .l)) none (.n (.n (.n .l (some F151) .l) (some F87) .l) none .l))) none (.n (.n (.n (.n .l (some F67) (.n .l (some F195) .l)) none .l) (some F19) (.n (.n .l (some F83) .l) none (.n .l (some F115) .l))) none (.n (.n (.n .l (some F75) .l) none (.n .l (some F107) .l)) (some F27) (.n .l none (.n .l (some F123) .l))))) none (.n (.n (.n (.n (.n (.n .l (some F129) .l) (some F65) (.n .l (some F193) .l)) none .l) none (.n (.n .l (some F81) .l) none (.n .l (some F113) (.n .l (some F241) .l)))) none (.n (.n (.n .l (some F73) .l) none (.n .l (some F105) .l)) none (.n (.n (.n .l (some F153) .l) none .l) none .l))) none (.n (.n (.n (.n .l (some F69) .l) none .l) (some F21) (.n (.n (.n .l (some F149) .l) (some F85) .l) none (.n .l (some F117) .l))) (some F13) (.n (.n (.n .l (some F77) .l) none (.n .l (some F109) .l)) none (.n (.n (.n .l (some F157) .l) none .l) (some F61) (.n .l (some F125) .l)))))) none (.n (.n (.n (.n (.n (.n (.n .l (some F128) .l) (some F64) .l) none .l) (some F16) (.n (.n .l (some F80) .l) none (.n .l (some F112) .l))) none (.n (.n (.n .l (some F72) (.n .l (some F200) .l)) none (.n .l (some F104) .l)) (some F24) (.n (.n (.n .l (some F152) .l) none .l) none (.n .l (some F120) .l)))) none (.n (.n (.n (.n .l (some F68) (.n .l (some F196) .l)) none .l) none (.n (.n (.n .l (some F148) .l) (some F84) .l) none (.n .l (some F116) .l))) (some F12) (.n (.n (.n .l (some F76) .l) none (.n .l (some F108) .l)) none (.n .l (some F60) (.n .l (some F124) .l))))) none (.n (.n (.n (.n (.n .l (some F66) (.n .l (some F194) .l)) none .l) (some F18) (.n .l none (.n .l (some F114) .l))) (some F10) (.n (.n (.n .l (some F74) (.n .l (some F202) .l)) none (.n .l (some F106) .l)) (some F26) (.n .l (some F58) .l))) none (.n (.n (.n (.n .l (some F70) .l) none .l) (some F22) (.n (.n (.n .l (some F150) .l) none .l) none (.n .l (some F118) .l))) (some F14) (.n (.n (.n .l (some F78) .l) none (.n .l (some F110) .l)) none (.n .l (some F62) (.n .l (some F126) .l)))))))
def RP (f : Nat) : Option RF := rtree.get f
theorem rall : rtree.All (RunOK IP) 1 0 :=
  ⟨(fun _ h => by cases h), ⟨(fun _ h => by cases h), ⟨(fun _ h => by cases h), ⟨(fun _ h => by cases h), ⟨(fun _ h => by cases h), ⟨(fun _ h => by cases h), ⟨(fun _ h => by cases h; exact ro63), ⟨(fun _ h => by cases h; exact ro127), trivial, trivial⟩, trivial⟩, trivial⟩, ⟨(fun _ h => by cases h), ⟨(fun _ h => by cases h; exact ro79), trivial, ⟨(fun _ h => by cases h; exact ro207), trivial, trivial⟩⟩, ⟨(fun _ h => by cases h; exact ro111), trivial, trivial⟩⟩⟩, ⟨(fun _ h => by cases h), ⟨(fun _ h => by cases h), ⟨(fun _ h => by cases h; exact ro71), trivial, ⟨(fun _ h => by cases h; exact ro199), trivial, trivial⟩⟩, ⟨(fun _ h => by cases h; exact ro103), trivial, trivial⟩⟩, ⟨(fun _ h => by cases h), ⟨(fun _ h => by cases h; exact ro87), ⟨(fun _ h => by cases h; exact ro151), trivial, trivial⟩, trivial⟩, trivial⟩⟩⟩, ⟨(fun _ h => by cases h), ⟨(fun _ h => by cases h; exact ro19), ⟨(fun _ h => by cases h), ⟨(fun _ h => by cases h; exact ro67), trivial, ⟨(fun _ h => by cases h; exact ro195), trivial, trivial⟩⟩, trivial⟩, ⟨(fun _ h => by cases h), ⟨(fun _ h => by cases h; exact ro83), trivial, trivial⟩, ⟨(fun _ h => by cases h; exact ro115), trivial, trivial⟩⟩⟩, ⟨(fun _ h => by cases h; exact ro27), ⟨(fun _ h => by cases h), ⟨(fun _ h => by cases h; exact ro75), trivial, trivial⟩, ⟨(fun _ h => by cases h; exact ro107), trivial, trivial⟩⟩, ⟨(fun _ h => by cases h), trivial, ⟨(fun _ h => by cases h; exact ro123), trivial, trivial⟩⟩⟩⟩⟩, ⟨(fun _ h => by cases h), ⟨(fun _ h => by cases h), ⟨(fun _ h => by cases h), ⟨(fun _ h => by cases h), ⟨(fun _ h => by cases h; exact ro65), ⟨(fun _ h => by cases h; exact ro129), trivial, trivial⟩, ⟨(fun _ h => by cases h; exact ro193), trivial, trivial⟩⟩, trivial⟩, ⟨(fun _ h => by cases h), ⟨(fun _ h => by cases h; exact ro81), trivial, trivial⟩, ⟨(fun _ h => by cases h; exact ro113), trivial, ⟨(fun _ h => by cases h; exact ro241), trivial, trivial⟩⟩⟩⟩, ⟨(fun _ h => by cases h), ⟨(fun _ h => by cases h), ⟨(fun _ h => by cases h; exact ro73), trivial, trivial⟩, ⟨(fun _ h => by cases h; exact ro105), trivial, trivial⟩⟩, ⟨(fun _ h => by cases h), ⟨(fun _ h => by cases h), ⟨(fun _ h => by cases h; exact ro153), trivial, trivial⟩, trivial⟩, trivial⟩⟩⟩, ⟨(fun _ h => by cases h; exact ro13), ⟨(fun _ h => by cases h; exact ro21), ⟨(fun _ h => by cases h), ⟨(fun _ h => by cases h; exact ro69), trivial, trivial⟩, trivial⟩, ⟨(fun _ h => by cases h), ⟨(fun _ h => by cases h; exact ro85), ⟨(fun _ h => by cases h; exact ro149), trivial, trivial⟩, trivial⟩, ⟨(fun _ h => by cases h; exact ro117), trivial, trivial⟩⟩⟩, ⟨(fun _ h => by cases h), ⟨(fun _ h => by cases h), ⟨(fun _ h => by cases h; exact ro77), trivial, trivial⟩, ⟨(fun _ h => by cases h; exact ro109), trivial, trivial⟩⟩, ⟨(fun _ h => by cases h; exact ro61), ⟨(fun _ h => by cases h), ⟨(fun _ h => by cases h; exact ro157), trivial, trivial⟩, trivial⟩, ⟨(fun _ h => by cases h; exact ro125), trivial, trivial⟩⟩⟩⟩⟩⟩, ⟨(fun _ h => by cases h), ⟨(fun _ h => by cases h), ⟨(fun _ h => by cases h), ⟨(fun _ h => by cases h; exact ro16), ⟨(fun _ h => by cases h), ⟨(fun _ h => by cases h; exact ro64), ⟨(fun _ h => by cases h; exact ro128), trivial, trivial⟩, trivial⟩, trivial⟩, ⟨(fun _ h => by cases h), ⟨(fun _ h => by cases h; exact ro80), trivial, trivial⟩, ⟨(fun _ h => by cases h; exact ro112), trivial, trivial⟩⟩⟩, ⟨(fun _ h => by cases h; exact ro24), ⟨(fun _ h => by cases h), ⟨(fun _ h => by cases h; exact ro72), trivial, ⟨(fun _ h => by cases h; exact ro200), trivial, trivial⟩⟩, ⟨(fun _ h => by cases h; exact ro104), trivial, trivial⟩⟩, ⟨(fun _ h => by cases h), ⟨(fun _ h => by cases h), ⟨(fun _ h => by cases h; exact ro152), trivial, trivial⟩, trivial⟩, ⟨(fun _ h => by cases h; exact ro120), trivial, trivial⟩⟩⟩⟩, ⟨(fun _ h => by cases h; exact ro12), ⟨(fun _ h => by cases h), ⟨(fun _ h => by cases h), ⟨(fun _ h => by cases h; exact ro68), trivial, ⟨(fun _ h => by cases h; exact ro196), trivial, trivial⟩⟩, trivial⟩, ⟨(fun _ h => by cases h), ⟨(fun _ h => by cases h; exact ro84), ⟨(fun _ h => by cases h; exact ro148), trivial, trivial⟩, trivial⟩, ⟨(fun _ h => by cases h; exact ro116), trivial, trivial⟩⟩⟩, ⟨(fun _ h => by cases h), ⟨(fun _ h => by cases h), ⟨(fun _ h => by cases h; exact ro76), trivial, trivial⟩, ⟨(fun _ h => by cases h; exact ro108), trivial, trivial⟩⟩, ⟨(fun _ h => by cases h; exact ro60), trivial, ⟨(fun _ h => by cases h; exact ro124), trivial, trivial⟩⟩⟩⟩⟩, ⟨(fun _ h => by cases h), ⟨(fun _ h => by cases h; exact ro10), ⟨(fun _ h => by cases h; exact ro18), ⟨(fun _ h => by cases h), ⟨(fun _ h => by cases h; exact ro66), trivial, ⟨(fun _ h => by cases h; exact ro194), trivial, trivial⟩⟩, trivial⟩, ⟨(fun _ h => by cases h), trivial, ⟨(fun _ h => by cases h; exact ro114), trivial, trivial⟩⟩⟩, ⟨(fun _ h => by cases h; exact ro26), ⟨(fun _ h => by cases h), ⟨(fun _ h => by cases h; exact ro74), trivial, ⟨(fun _ h => by cases h; exact ro202), trivial, trivial⟩⟩, ⟨(fun _ h => by cases h; exact ro106), trivial, trivial⟩⟩, ⟨(fun _ h => by cases h; exact ro58), trivial, trivial⟩⟩⟩, ⟨(fun _ h => by cases h; exact ro14), ⟨(fun _ h => by cases h; exact ro22), ⟨(fun _ h => by cases h), ⟨(fun _ h => by cases h; exact ro70), trivial, trivial⟩, trivial⟩, ⟨(fun _ h => by cases h), ⟨(fun _ h => by cases h), ⟨(fun _ h => by cases h; exact ro150), trivial, trivial⟩, trivial⟩, ⟨(fun _ h => by cases h; exact ro118), trivial, trivial⟩⟩⟩, ⟨(fun _ h => by cases h), ⟨(fun _ h => by cases h), ⟨(fun _ h => by cases h; exact ro78), trivial, trivial⟩, ⟨(fun _ h => by cases h; exact ro110), trivial, trivial⟩⟩, ⟨(fun _ h => by cases h; exact ro62), trivial, ⟨(fun _ h => by cases h; exact ro126), trivial, trivial⟩⟩⟩⟩⟩⟩⟩
theorem runs {k f : Nat} {a : List V} {h : H} {r : V × H} (e : run RP k f a h = some r) : ev IP k f a h = some r := run_ev (runOK_of_tree rall) k f a h r e
end Go.Proofs.YtbbencnhecokiaaGreatDoor.IrPostNone
