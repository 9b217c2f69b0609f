/-
  The abstract machine's text of the functions that ClientNone reaches, and: it is the loaded program's. Then the functions without temporaries.
-/
import Derived.Test.YtbbencnhecokiaaGreatDoorProg
import Derived.Test.YtbbencnhecokiaaGreatDoorMxT
import Derived.Test.YtbbencnhecokiaaGreatDoorMxU
import Derived.Test.YtbbencnhecokiaaGreatDoorMxV
import Derived.Test.YtbbencnhecokiaaGreatDoorMxX
import Derived.Test.YtbbencnhecokiaaGreatDoorIrClientNoneP1
namespace Go.Proofs.YtbbencnhecokiaaGreatDoor.IrClientNone
open Go Mx
set_option maxRecDepth 100000
set_option linter.unusedVariables false
theorem ip222 : IP 222 = some ir222 := rfl
def rQ222 (C : Nat → List V → H → Rr) (k : Nat) : X → E → H → Rr := Qrr rs222
def rQ222_1 (C : Nat → List V → H → Rr) (k : Nat) : X → E → H → Rr := (rQ222 C k)
def rK222_1 (C : Nat → List V → H → Rr) (k : Nat) (h : H) : Rr := (some ((.b true), h))
def rJ222_1 (C : Nat → List V → H → Rr) (k : Nat) : E → H → Rr := fun e h => (rK222_1 C k h)
theorem rp222_1 (C : Nat → List V → H → Rr) (k : Nat) : dn C k c222_1 (rQ222_1 C k) = (rJ222_1 C k) := by kernel_rfl
def rK222 (C : Nat → List V → H → Rr) (k : Nat) (x0 x1 : V) (h : H) : Rr := (rK (C 102 [x0, x1] h) fun v1 h2 => (rB (bin .eql v1 (.i .i64 1)) fun v3 => (rS v3 (some ((.b false), h2)) (rB (bin .eql v1 (.i .i64 2)) fun v4 => (rS v4 (rB (vNilc x0) fun v5 => (rB (vFa 9 v5) fun v6 => (rB (vLd1 h2 v6) fun v7 => (rB (bin .eql v7 (.i .i64 0)) fun v8 => (rS v8 (some ((.b false), h2)) (rB (vNilc x0) fun v9 => (rB (vFa 9 v9) fun v10 => (rB (vLd1 h2 v10) fun v11 => (rB (bin .sub v11 (.i .i64 1)) fun v12 => (rB (vNilc x0) fun v13 => (rB (vFa 9 v13) fun v14 => (rB (vStore h2 1 v14 v12) fun r15 => (rB (vNilc x0) fun v16 => (rB (vFa 10 v16) fun v17 => (rB (vLd1 r15.2 v17) fun v18 => (rB (bin .add v18 (.i .i64 1)) fun v19 => (rB (vNilc x0) fun v20 => (rB (vFa 10 v20) fun v21 => (rB (vStore r15.2 1 v21 v19) fun r22 => (rK222_1 C k r22.2)))))))))))))))))))) (rK222_1 C k h2))))))
theorem rp222 (C : Nat → List V → H → Rr) (k : Nat) : dn C k c222 (rQ222 C k) = fun e h => (rK222 C k (e 0) (e 1) h) := by
  refine Eq.trans (rseq_eq (rseq_eq (rp222_1 C k) rfl) rfl) ?_
  kernel_rfl
def F222 : RF := fun C k a h => match a with
  | [a0, a1] => rK222 C k a0 a1 h
  | _ => none
theorem ro222 : RunOK IP 222 F222 := ⟨ir222, ip222, by kernel_rfl, fun C k a h r e => by
  unfold F222 at e
  split at e
  · exact ⟨by kernel_rfl, (congrFun (congrFun (rp222 C k) _) h).trans e⟩
  · cases e⟩
theorem ip227 : IP 227 = some ir227 := rfl
def rQ227 (C : Nat → List V → H → Rr) (k : Nat) : X → E → H → Rr := Qrr rs227
def rK227 (C : Nat → List V → H → Rr) (k : Nat) (x0 : V) (h : H) : Rr := (rB (vLdA h 2 (.p (some (11, 0)))) fun v1 => (rK (C 124 [v1, x0] h) fun v2 h3 => (rB (vCvi .i64 v2) fun v4 => (some (v4, h3)))))
theorem rp227 (C : Nat → List V → H → Rr) (k : Nat) : dn C k c227 (rQ227 C k) = fun e h => (rK227 C k (e 0) h) := by kernel_rfl
def F227 : RF := fun C k a h => match a with
  | [a0] => rK227 C k a0 h
  | _ => none
theorem ro227 : RunOK IP 227 F227 := ⟨ir227, ip227, by kernel_rfl, fun C k a h r e => by
  unfold F227 at e
  split at e
  · exact ⟨by kernel_rfl, (congrFun (congrFun (rp227 C k) _) h).trans e⟩
  · cases e⟩
theorem ip228 : IP 228 = some ir228 := rfl
def rQ228 (C : Nat → List V → H → Rr) (k : Nat) : X → E → H → Rr := Qrr rs228
def rS228_4 (C : Nat → List V → H → Rr) (k : Nat) : E → H → Rr := ((Qxr (dn C k .ret (rQ228 C k)) (rQ228 C k)) X.normal)
def rK228_4 (C : Nat → List V → H → Rr) (k : Nat) (x5 x7 : V) (h : H) : Rr := (rB (vPick x5 x7 (.b false)) fun v1 => (some (v1, h)))
def rJ228_4 (C : Nat → List V → H → Rr) (k : Nat) : E → H → Rr := fun e h => (rK228_4 C k (e 5) (e 7) h)
theorem rp228_4 (C : Nat → List V → H → Rr) (k : Nat) : dnOps C o228_1 (rS228_4 C k) = (rJ228_4 C k) := by
  refine Eq.trans (rapp_eq rfl rfl) ?_
  kernel_rfl
def rK228 (C : Nat → List V → H → Rr) (k : Nat) (x0 : V) (h : H) : Rr := (rB (bin .geq x0 (.i .i64 0)) fun v1 => (rG v1 true (rB (bin .lss x0 (.i .i64 4)) fun v2 => (rK228_4 C k v1 v2 h)) (rK228_4 C k v1 undefV h)))
theorem rp228 (C : Nat → List V → H → Rr) (k : Nat) : dn C k c228 (rQ228 C k) = fun e h => (rK228 C k (e 0) h) := by
  refine Eq.trans (rseq_eq (rseq_eq rfl (rregion_eq (rapp_eq (rgrp_eq2 5 true rfl (rp228_4 C k) rfl) rfl))) rfl) ?_
  kernel_rfl
def F228 : RF := fun C k a h => match a with
  | [a0] => rK228 C k a0 h
  | _ => none
theorem ro228 : RunOK IP 228 F228 := ⟨ir228, ip228, by kernel_rfl, fun C k a h r e => by
  unfold F228 at e
  split at e
  · exact ⟨by kernel_rfl, (congrFun (congrFun (rp228 C k) _) h).trans e⟩
  · cases e⟩
theorem ip234 : IP 234 = some ir234 := rfl
def rQ234 (C : Nat → List V → H → Rr) (k : Nat) : X → E → H → Rr := Qrr rs234
def rS234_20 (C : Nat → List V → H → Rr) (k : Nat) : E → H → Rr := ((Qxr (dn C k .ret (rQ234 C k)) (rQ234 C k)) X.normal)
def rK234_20 (C : Nat → List V → H → Rr) (k : Nat) (x46 x49 : V) (h : H) : Rr := (rB (vPick x46 x49 (.b false)) fun v1 => (some (v1, h)))
def rJ234_20 (C : Nat → List V → H → Rr) (k : Nat) : E → H → Rr := fun e h => (rK234_20 C k (e 46) (e 49) h)
theorem rp234_20 (C : Nat → List V → H → Rr) (k : Nat) : dnOps C o234_1 (rS234_20 C k) = (rJ234_20 C k) := by
  refine Eq.trans (rapp_eq rfl rfl) ?_
  kernel_rfl
def rS234_21 (C : Nat → List V → H → Rr) (k : Nat) : E → H → Rr := ((Qxr (dn C k .ret (rQ234 C k)) (rQ234 C k)) X.normal)
def rK234_21 (C : Nat → List V → H → Rr) (k : Nat) (x1 x41 x44 : V) (h : H) : Rr := (rB (vPick x41 x44 (.b false)) fun v1 => (rG v1 true (rB (vFa 3 x1) fun v2 => (rB (vLd1 h v2) fun v3 => (rB (bin .leq v3 (.i .i64 16777215)) fun v4 => (rK234_20 C k v1 v4 h)))) (rK234_20 C k v1 undefV h)))
def rJ234_21 (C : Nat → List V → H → Rr) (k : Nat) : E → H → Rr := fun e h => (rK234_21 C k (e 1) (e 41) (e 44) h)
theorem rp234_21 (C : Nat → List V → H → Rr) (k : Nat) : dnOps C o234_3 (rS234_21 C k) = (rJ234_21 C k) := by
  refine Eq.trans (rapp_eq (rgrp_eq2 46 true rfl (rp234_20 C k) rfl) rfl) ?_
  kernel_rfl
def rS234_22 (C : Nat → List V → H → Rr) (k : Nat) : E → H → Rr := ((Qxr (dn C k .ret (rQ234 C k)) (rQ234 C k)) X.normal)
def rK234_22 (C : Nat → List V → H → Rr) (k : Nat) (x1 x36 x39 : V) (h : H) : Rr := (rB (vPick x36 x39 (.b false)) fun v1 => (rG v1 true (rB (vFa 3 x1) fun v2 => (rB (vLd1 h v2) fun v3 => (rB (bin .geq v3 (.i .i64 1)) fun v4 => (rK234_21 C k x1 v1 v4 h)))) (rK234_21 C k x1 v1 undefV h)))
def rJ234_22 (C : Nat → List V → H → Rr) (k : Nat) : E → H → Rr := fun e h => (rK234_22 C k (e 1) (e 36) (e 39) h)
theorem rp234_22 (C : Nat → List V → H → Rr) (k : Nat) : dnOps C o234_5 (rS234_22 C k) = (rJ234_22 C k) := by
  refine Eq.trans (rapp_eq (rgrp_eq2 41 true rfl (rp234_21 C k) rfl) rfl) ?_
  kernel_rfl
def rS234_23 (C : Nat → List V → H → Rr) (k : Nat) : E → H → Rr := ((Qxr (dn C k .ret (rQ234 C k)) (rQ234 C k)) X.normal)
def rK234_23 (C : Nat → List V → H → Rr) (k : Nat) (x1 x31 x34 : V) (h : H) : Rr := (rB (vPick x31 x34 (.b false)) fun v1 => (rG v1 true (rB (vFa 2 x1) fun v2 => (rB (vLd1 h v2) fun v3 => (rB (bin .lss v3 (.i .i64 16)) fun v4 => (rK234_22 C k x1 v1 v4 h)))) (rK234_22 C k x1 v1 undefV h)))
def rJ234_23 (C : Nat → List V → H → Rr) (k : Nat) : E → H → Rr := fun e h => (rK234_23 C k (e 1) (e 31) (e 34) h)
theorem rp234_23 (C : Nat → List V → H → Rr) (k : Nat) : dnOps C o234_7 (rS234_23 C k) = (rJ234_23 C k) := by
  refine Eq.trans (rapp_eq (rgrp_eq2 36 true rfl (rp234_22 C k) rfl) rfl) ?_
  kernel_rfl
def rS234_24 (C : Nat → List V → H → Rr) (k : Nat) : E → H → Rr := ((Qxr (dn C k .ret (rQ234 C k)) (rQ234 C k)) X.normal)
def rK234_24 (C : Nat → List V → H → Rr) (k : Nat) (x1 x26 x29 : V) (h : H) : Rr := (rB (vPick x26 x29 (.b false)) fun v1 => (rG v1 true (rB (vFa 2 x1) fun v2 => (rB (vLd1 h v2) fun v3 => (rB (bin .geq v3 (.i .i64 0)) fun v4 => (rK234_23 C k x1 v1 v4 h)))) (rK234_23 C k x1 v1 undefV h)))
def rJ234_24 (C : Nat → List V → H → Rr) (k : Nat) : E → H → Rr := fun e h => (rK234_24 C k (e 1) (e 26) (e 29) h)
theorem rp234_24 (C : Nat → List V → H → Rr) (k : Nat) : dnOps C o234_9 (rS234_24 C k) = (rJ234_24 C k) := by
  refine Eq.trans (rapp_eq (rgrp_eq2 31 true rfl (rp234_23 C k) rfl) rfl) ?_
  kernel_rfl
def rS234_25 (C : Nat → List V → H → Rr) (k : Nat) : E → H → Rr := ((Qxr (dn C k .ret (rQ234 C k)) (rQ234 C k)) X.normal)
def rK234_25 (C : Nat → List V → H → Rr) (k : Nat) (x1 x21 x24 : V) (h : H) : Rr := (rB (vPick x21 x24 (.b false)) fun v1 => (rG v1 true (rB (vFa 1 x1) fun v2 => (rB (vLd1 h v2) fun v3 => (rB (bin .lss v3 (.i .i64 4)) fun v4 => (rK234_24 C k x1 v1 v4 h)))) (rK234_24 C k x1 v1 undefV h)))
def rJ234_25 (C : Nat → List V → H → Rr) (k : Nat) : E → H → Rr := fun e h => (rK234_25 C k (e 1) (e 21) (e 24) h)
theorem rp234_25 (C : Nat → List V → H → Rr) (k : Nat) : dnOps C o234_11 (rS234_25 C k) = (rJ234_25 C k) := by
  refine Eq.trans (rapp_eq (rgrp_eq2 26 true rfl (rp234_24 C k) rfl) rfl) ?_
  kernel_rfl
def rS234_26 (C : Nat → List V → H → Rr) (k : Nat) : E → H → Rr := ((Qxr (dn C k .ret (rQ234 C k)) (rQ234 C k)) X.normal)
def rK234_26 (C : Nat → List V → H → Rr) (k : Nat) (x1 x16 x19 : V) (h : H) : Rr := (rB (vPick x16 x19 (.b false)) fun v1 => (rG v1 true (rB (vFa 1 x1) fun v2 => (rB (vLd1 h v2) fun v3 => (rB (bin .geq v3 (.i .i64 0)) fun v4 => (rK234_25 C k x1 v1 v4 h)))) (rK234_25 C k x1 v1 undefV h)))
def rJ234_26 (C : Nat → List V → H → Rr) (k : Nat) : E → H → Rr := fun e h => (rK234_26 C k (e 1) (e 16) (e 19) h)
theorem rp234_26 (C : Nat → List V → H → Rr) (k : Nat) : dnOps C o234_13 (rS234_26 C k) = (rJ234_26 C k) := by
  refine Eq.trans (rapp_eq (rgrp_eq2 21 true rfl (rp234_25 C k) rfl) rfl) ?_
  kernel_rfl
def rS234_27 (C : Nat → List V → H → Rr) (k : Nat) : E → H → Rr := ((Qxr (dn C k .ret (rQ234 C k)) (rQ234 C k)) X.normal)
def rK234_27 (C : Nat → List V → H → Rr) (k : Nat) (x1 x11 x14 : V) (h : H) : Rr := (rB (vPick x11 x14 (.b false)) fun v1 => (rG v1 true (rB (vFa 4 x1) fun v2 => (rB (vLd1 h v2) fun v3 => (rB (bin .leq v3 (.i .i64 3)) fun v4 => (rK234_26 C k x1 v1 v4 h)))) (rK234_26 C k x1 v1 undefV h)))
def rJ234_27 (C : Nat → List V → H → Rr) (k : Nat) : E → H → Rr := fun e h => (rK234_27 C k (e 1) (e 11) (e 14) h)
theorem rp234_27 (C : Nat → List V → H → Rr) (k : Nat) : dnOps C o234_15 (rS234_27 C k) = (rJ234_27 C k) := by
  refine Eq.trans (rapp_eq (rgrp_eq2 16 true rfl (rp234_26 C k) rfl) rfl) ?_
  kernel_rfl
def rS234_28 (C : Nat → List V → H → Rr) (k : Nat) : E → H → Rr := ((Qxr (dn C k .ret (rQ234 C k)) (rQ234 C k)) X.normal)
def rK234_28 (C : Nat → List V → H → Rr) (k : Nat) (x1 x6 x9 : V) (h : H) : Rr := (rB (vPick x6 x9 (.b false)) fun v1 => (rG v1 true (rB (vFa 4 x1) fun v2 => (rB (vLd1 h v2) fun v3 => (rB (bin .geq v3 (.i .i64 1)) fun v4 => (rK234_27 C k x1 v1 v4 h)))) (rK234_27 C k x1 v1 undefV h)))
def rJ234_28 (C : Nat → List V → H → Rr) (k : Nat) : E → H → Rr := fun e h => (rK234_28 C k (e 1) (e 6) (e 9) h)
theorem rp234_28 (C : Nat → List V → H → Rr) (k : Nat) : dnOps C o234_17 (rS234_28 C k) = (rJ234_28 C k) := by
  refine Eq.trans (rapp_eq (rgrp_eq2 11 true rfl (rp234_27 C k) rfl) rfl) ?_
  kernel_rfl
def rK234 (C : Nat → List V → H → Rr) (k : Nat) (x0 : V) (h : H) : Rr := (rB (vBox x0 h) fun r1 => (rB (vFa 0 r1.1) fun v2 => (rB (vLd1 r1.2 v2) fun v3 => (rB (bin .geq v3 (.i .i64 0)) fun v4 => (rG v4 true (rB (vFa 0 r1.1) fun v5 => (rB (vLd1 r1.2 v5) fun v6 => (rB (bin .lss v6 (.i .i64 1099511627776)) fun v7 => (rK234_28 C k r1.1 v4 v7 r1.2)))) (rK234_28 C k r1.1 v4 undefV r1.2))))))
theorem rp234 (C : Nat → List V → H → Rr) (k : Nat) : dn C k c234 (rQ234 C k) = fun e h => (rK234 C k (e 0) h) := by
  refine Eq.trans (rseq_eq (rseq_eq rfl (rregion_eq (rapp_eq (rgrp_eq2 6 true rfl (rp234_28 C k) rfl) rfl))) rfl) ?_
  kernel_rfl
def F234 : RF := fun C k a h => match a with
  | [a0] => rK234 C k a0 h
  | _ => none
theorem ro234 : RunOK IP 234 F234 := ⟨ir234, ip234, by kernel_rfl, fun C k a h r e => by
  unfold F234 at e
  split at e
  · exact ⟨by kernel_rfl, (congrFun (congrFun (rp234 C k) _) h).trans e⟩
  · cases e⟩
theorem ip235 : IP 235 = some ir235 := rfl
def rQ235 (C : Nat → List V → H → Rr) (k : Nat) : X → E → H → Rr := Qrr rs235
def rK235 (C : Nat → List V → H → Rr) (k : Nat) (x0 x1 : V) (h : H) : Rr := (rB (vBox x0 h) fun r1 => (rB (some (.p (some (H.nx r1.2, 0)), H.new r1.2 ⟨false, [(.i .i64 0), (.i .i64 0), (.i .i64 0), (.i .i64 0), (.i .i64 0), (.i .u32 0), (.i .i64 0), (.b false), (.b false), (.i .i64 0), (.i .u32 0)]⟩)) fun r2 => (rB (foldO max2 x1 [(.i .i64 0)]) fun v3 => (rB (foldO min2 v3 [(.i .i64 1099511627775)]) fun v4 => (rB (vCvi .u32 v4) fun v5 => (rB (bin .shr v4 (.i .u64 32)) fun v6 => (rB (vFa 10 r1.1) fun v7 => (rB (vStore r2.2 1 v7 v5) fun r8 => (rB (vFa 9 r1.1) fun v9 => (rB (vStore r8.2 1 v9 v6) fun r10 => (rB (vLdA r10.2 11 r1.1) fun v11 => (rB (vStore r10.2 11 r2.1 v11) fun r12 => (rB (vLdA r12.2 11 r2.1) fun v13 => (some (v13, r12.2)))))))))))))))
theorem rp235 (C : Nat → List V → H → Rr) (k : Nat) : dn C k c235 (rQ235 C k) = fun e h => (rK235 C k (e 0) (e 1) h) := by kernel_rfl
def F235 : RF := fun C k a h => match a with
  | [a0, a1] => rK235 C k a0 a1 h
  | _ => none
theorem ro235 : RunOK IP 235 F235 := ⟨ir235, ip235, by kernel_rfl, fun C k a h r e => by
  unfold F235 at e
  split at e
  · exact ⟨by kernel_rfl, (congrFun (congrFun (rp235 C k) _) h).trans e⟩
  · cases e⟩
theorem ip236 : IP 236 = some ir236 := rfl
def rQ236 (C : Nat → List V → H → Rr) (k : Nat) : X → E → H → Rr := Qrr rs236
def rK236 (C : Nat → List V → H → Rr) (k : Nat) (x0 x1 : V) (h : H) : Rr := (rB (vNilc x0) fun v1 => (rB (vFa 14 v1) fun v2 => (rB (vLd1 h v2) fun v3 => (rB (bin .gtr v3 (.i .i64 15)) fun v4 => (rS v4 (some (V.nsl, h)) (rB (vNilc x0) fun v5 => (rB (vFa 0 v5) fun v6 => (rB (vLdA h 11 v6) fun v7 => (rB (some (.p (some (H.nx h, 0)), H.new h ⟨false, [(.i .i64 0), (.i .i64 0), (.i .i64 0), (.i .i64 0), (.i .i64 0), (.i .u32 0), (.i .i64 0), (.b false), (.b false), (.i .i64 0), (.i .u32 0)]⟩)) fun r8 => (rB (vStore r8.2 11 r8.1 v7) fun r9 => (rB (vNilc x0) fun v10 => (rB (vFa 14 v10) fun v11 => (rB (vLd1 r9.2 v11) fun v12 => (rB (vFa 6 r8.1) fun v13 => (rB (vStore r9.2 1 v13 v12) fun r14 => (rB (vNilc x0) fun v15 => (rB (vFa 15 v15) fun v16 => (rB (vLd1 r14.2 v16) fun v17 => (rB (vNilc x0) fun v18 => (rB (vFa 14 v18) fun v19 => (rB (vLd1 r14.2 v19) fun v20 => (rB (bin .shl (.i .i64 1) v20) fun v21 => (rB (bin .or v17 v21) fun v22 => (rB (vNilc x0) fun v23 => (rB (vFa 15 v23) fun v24 => (rB (vStore r14.2 1 v24 v22) fun r25 => (rB (vNilc x0) fun v26 => (rB (vFa 14 v26) fun v27 => (rB (vLd1 r25.2 v27) fun v28 => (rB (bin .add v28 (.i .i64 1)) fun v29 => (rB (vNilc x0) fun v30 => (rB (vFa 14 v30) fun v31 => (rB (vStore r25.2 1 v31 v29) fun r32 => (rK (C 136 [x1] r32.2) fun v33 h34 => (rB (vNilc x0) fun v35 => (rB (vFa 18 v35) fun v36 => (rB (vStore h34 1 v36 v33) fun r37 => (rB (vLdA r37.2 11 r8.1) fun v38 => (rB (vBld [(.i .i64 0), (.i .i64 0), (.i .i64 0), (.i .i64 0), (.i .i64 0), (.i .i64 0), (.i .u32 0), (.i .i64 0), (.b false), (.b false), (.i .i64 0), (.i .u32 0), (.i .i64 0), (.i .i64 0), (.i .i64 0), (.i .i64 0), (.i .i64 0)] [(0, 1, (.i .i64 1)), (1, 11, v38)]) fun v39 => (rB (vNewSl 1 [(.i .i64 0), (.i .i64 0), (.i .i64 0), (.i .i64 0), (.i .i64 0), (.i .i64 0), (.i .u32 0), (.i .i64 0), (.b false), (.b false), (.i .i64 0), (.i .u32 0), (.i .i64 0), (.i .i64 0), (.i .i64 0), (.i .i64 0), (.i .i64 0)] [(0, 17, v39)] r37.2) fun r40 => (some (r40.1, r40.2))))))))))))))))))))))))))))))))))))))))))
theorem rp236 (C : Nat → List V → H → Rr) (k : Nat) : dn C k c236 (rQ236 C k) = fun e h => (rK236 C k (e 0) (e 1) h) := by kernel_rfl
def F236 : RF := fun C k a h => match a with
  | [a0, a1] => rK236 C k a0 a1 h
  | _ => none
theorem ro236 : RunOK IP 236 F236 := ⟨ir236, ip236, by kernel_rfl, fun C k a h r e => by
  unfold F236 at e
  split at e
  · exact ⟨by kernel_rfl, (congrFun (congrFun (rp236 C k) _) h).trans e⟩
  · cases e⟩
theorem ip237 : IP 237 = some ir237 := rfl
def rQ237 (C : Nat → List V → H → Rr) (k : Nat) : X → E → H → Rr := Qrr rs237
def rQ237_1 (C : Nat → List V → H → Rr) (k : Nat) : X → E → H → Rr := (rQ237 C k)
def rK237_1 (C : Nat → List V → H → Rr) (k : Nat) (x0 x3 : V) (h : H) : Rr := (rB (vNilc x0) fun v1 => (rB (vFa 0 v1) fun v2 => (rB (vFa 1 v2) fun v3 => (rB (vLd1 h v3) fun v4 => (rB (vNilc x0) fun v5 => (rB (vFa 0 v5) fun v6 => (rB (vFa 3 v6) fun v7 => (rB (vLd1 h v7) fun v8 => (rB (vNilc x0) fun v9 => (rB (vFa 0 v9) fun v10 => (rB (vFa 4 v10) fun v11 => (rB (vLd1 h v11) fun v12 => (rB (vBld [(.i .i64 0), (.i .i64 0), (.i .i64 0), (.i .i64 0), (.i .i64 0)] [(0, 1, x3), (1, 1, v4), (2, 1, v8), (3, 1, v12), (4, 1, (.i .i64 3))]) fun v13 => (rB (vBld [(.i .i64 0), (.i .i64 0), (.i .i64 0), (.i .i64 0), (.i .i64 0), (.i .i64 0), (.i .u32 0), (.i .i64 0), (.b false), (.b false), (.i .i64 0), (.i .u32 0), (.i .i64 0), (.i .i64 0), (.i .i64 0), (.i .i64 0), (.i .i64 0)] [(0, 1, (.i .i64 2)), (12, 5, v13)]) fun v14 => (rB (vNewSl 1 [(.i .i64 0), (.i .i64 0), (.i .i64 0), (.i .i64 0), (.i .i64 0), (.i .i64 0), (.i .u32 0), (.i .i64 0), (.b false), (.b false), (.i .i64 0), (.i .u32 0), (.i .i64 0), (.i .i64 0), (.i .i64 0), (.i .i64 0), (.i .i64 0)] [(0, 17, v14)] h) fun r15 => (some (r15.1, r15.2)))))))))))))))))
def rJ237_1 (C : Nat → List V → H → Rr) (k : Nat) : E → H → Rr := fun e h => (rK237_1 C k (e 0) (e 3) h)
theorem rp237_1 (C : Nat → List V → H → Rr) (k : Nat) : dn C k c237_1 (rQ237_1 C k) = (rJ237_1 C k) := by kernel_rfl
def rQ237_2 (C : Nat → List V → H → Rr) (k : Nat) : X → E → H → Rr := (Qxr (rJ237_1 C k) (rQ237 C k))
def rK237_2 (C : Nat → List V → H → Rr) (k : Nat) (x0 x3 x33 : V) (h : H) : Rr := (rS x33 (some (V.nsl, h)) (rK237_1 C k x0 x3 h))
def rJ237_2 (C : Nat → List V → H → Rr) (k : Nat) : E → H → Rr := fun e h => (rK237_2 C k (e 0) (e 3) (e 33) h)
theorem rp237_2 (C : Nat → List V → H → Rr) (k : Nat) : dn C k c237_2 (rQ237_2 C k) = (rJ237_2 C k) := by kernel_rfl
def rS237_6 (C : Nat → List V → H → Rr) (k : Nat) : E → H → Rr := ((Qxr (rJ237_2 C k) (Qxr (rJ237_1 C k) (rQ237 C k))) X.normal)
def rK237_6 (C : Nat → List V → H → Rr) (k : Nat) (x0 x3 x27 x32 : V) (h : H) : Rr := (rB (vPick x27 (.b true) x32) fun v1 => (rK237_2 C k x0 x3 v1 h))
def rJ237_6 (C : Nat → List V → H → Rr) (k : Nat) : E → H → Rr := fun e h => (rK237_6 C k (e 0) (e 3) (e 27) (e 32) h)
theorem rp237_6 (C : Nat → List V → H → Rr) (k : Nat) : dnOps C o237_3 (rS237_6 C k) = (rJ237_6 C k) := by
  refine Eq.trans (rapp_eq rfl rfl) ?_
  kernel_rfl
def rK237 (C : Nat → List V → H → Rr) (k : Nat) (x0 : V) (h : H) : Rr := (rB (vNilc x0) fun v1 => (rB (vFa 12 v1) fun v2 => (rB (vLdA h 2 v2) fun v3 => (rB (vNilc x0) fun v4 => (rB (vFa 0 v4) fun v5 => (rB (vLdA h 11 v5) fun v6 => (rB (vNilc x0) fun v7 => (rB (vFa 17 v7) fun v8 => (rB (vLd1 h v8) fun v9 => (rB (vNilc x0) fun v10 => (rB (vFa 18 v10) fun v11 => (rB (vLd1 h v11) fun v12 => (rB (vNilc x0) fun v13 => (rB (vFa 11 v13) fun v14 => (rB (vLd1 h v14) fun v15 => (rK (C 256 [v3, v6, v9, v12, v15] h) fun v16 h17 => (rB (bin .eql v16 (.i .i64 1099511627776)) fun v18 => (rG v18 false (rB (vNilc x0) fun v19 => (rB (vFa 14 v19) fun v20 => (rB (vLd1 h17 v20) fun v21 => (rB (bin .gtr v21 (.i .i64 15)) fun v22 => (rK237_6 C k x0 v16 v18 v22 h17))))) (rK237_6 C k x0 v16 v18 undefV h17)))))))))))))))))))
theorem rp237 (C : Nat → List V → H → Rr) (k : Nat) : dn C k c237 (rQ237 C k) = fun e h => (rK237 C k (e 0) h) := by
  refine Eq.trans (rseq_eq (rseq_eq (rseq_eq (rp237_1 C k) (rseq_eq (rp237_2 C k) (rregion_eq (rapp_eq (rgrp_eq2 27 false rfl (rp237_6 C k) rfl) rfl)))) rfl) rfl) ?_
  kernel_rfl
def F237 : RF := fun C k a h => match a with
  | [a0] => rK237 C k a0 h
  | _ => none
theorem ro237 : RunOK IP 237 F237 := ⟨ir237, ip237, by kernel_rfl, fun C k a h r e => by
  unfold F237 at e
  split at e
  · exact ⟨by kernel_rfl, (congrFun (congrFun (rp237 C k) _) h).trans e⟩
  · cases e⟩
theorem ip248 : IP 248 = some ir248 := rfl
def rQ248 (C : Nat → List V → H → Rr) (k : Nat) : X → E → H → Rr := Qrr rs248
def rK248 (C : Nat → List V → H → Rr) (k : Nat) (x0 : V) (h : H) : Rr := (rK (C 91 [x0] h) fun v1 h2 => (rB (bin .eql v1 (.i .i64 0)) fun v3 => (rS v3 (some ((.tup [(.i .i64 0), (.b false)]), h2)) (rB (vNilc x0) fun v4 => (rB (vFa 1 v4) fun v5 => (rB (vLd1 h2 v5) fun v6 => (rB (vNilc x0) fun v7 => (rB (vFa 2 v7) fun v8 => (rB (vLd1 h2 v8) fun v9 => (rB (vIa 1 v6 v9) fun v10 => (rB (vLd1 h2 v10) fun v11 => (rB (vNilc x0) fun v12 => (rB (vFa 2 v12) fun v13 => (rB (vLd1 h2 v13) fun v14 => (rB (bin .add v14 (.i .i64 1)) fun v15 => (rB (vNilc x0) fun v16 => (rB (vFa 0 v16) fun v17 => (rB (vLd1 h2 v17) fun v18 => (rB (bin .rem v15 v18) fun v19 => (rB (vNilc x0) fun v20 => (rB (vFa 2 v20) fun v21 => (rB (vStore h2 1 v21 v19) fun r22 => (rB (vNilc x0) fun v23 => (rB (vFa 3 v23) fun v24 => (rB (vLd1 r22.2 v24) fun v25 => (rB (bin .sub v25 (.i .i64 1)) fun v26 => (rB (vNilc x0) fun v27 => (rB (vFa 3 v27) fun v28 => (rB (vStore r22.2 1 v28 v26) fun r29 => (rB (vNilc x0) fun v30 => (rB (vFa 4 v30) fun v31 => (rB (vLd1 r29.2 v31) fun v32 => (rB (vIa 1 v32 v11) fun v33 => (rB (vStore r29.2 1 v33 (.b false)) fun r34 => (some ((.tup [v11, (.b true)]), r34.2))))))))))))))))))))))))))))))))))))
theorem rp248 (C : Nat → List V → H → Rr) (k : Nat) : dn C k c248 (rQ248 C k) = fun e h => (rK248 C k (e 0) h) := by kernel_rfl
def F248 : RF := fun C k a h => match a with
  | [a0] => rK248 C k a0 h
  | _ => none
theorem ro248 : RunOK IP 248 F248 := ⟨ir248, ip248, by kernel_rfl, fun C k a h r e => by
  unfold F248 at e
  split at e
  · exact ⟨by kernel_rfl, (congrFun (congrFun (rp248 C k) _) h).trans e⟩
  · cases e⟩
theorem ip256 : IP 256 = some ir256 := rfl
def rQ256 (C : Nat → List V → H → Rr) (k : Nat) : X → E → H → Rr := Qrr rs256
def rQ256_1 (C : Nat → List V → H → Rr) (k : Nat) : X → E → H → Rr := (rQ256 C k)
def rK256_1 (C : Nat → List V → H → Rr) (k : Nat) (x3 x4 x5 : V) (h : H) : Rr := (rB (vFa 1 x5) fun v1 => (rB (vLd1 h v1) fun v2 => (rK (C 255 [x3, v2] h) fun v3 h4 => (rK (C 136 [x4] h4) fun v5 h6 => (rB (bin .geq v3 v5) fun v7 => (rS v7 (some ((.i .i64 1099511627776), h6)) (some (v3, h6))))))))
def rJ256_1 (C : Nat → List V → H → Rr) (k : Nat) : E → H → Rr := fun e h => (rK256_1 C k (e 3) (e 4) (e 5) h)
theorem rp256_1 (C : Nat → List V → H → Rr) (k : Nat) : dn C k c256_1 (rQ256_1 C k) = (rJ256_1 C k) := by kernel_rfl
def rQ256_2 (C : Nat → List V → H → Rr) (k : Nat) : X → E → H → Rr := (Qxr (rJ256_1 C k) (rQ256 C k))
def rK256_2 (C : Nat → List V → H → Rr) (k : Nat) (x3 x4 x5 x20 : V) (h : H) : Rr := (rS x20 (some ((.i .i64 1099511627776), h)) (rK256_1 C k x3 x4 x5 h))
def rJ256_2 (C : Nat → List V → H → Rr) (k : Nat) : E → H → Rr := fun e h => (rK256_2 C k (e 3) (e 4) (e 5) (e 20) h)
theorem rp256_2 (C : Nat → List V → H → Rr) (k : Nat) : dn C k c256_2 (rQ256_2 C k) = (rJ256_2 C k) := by kernel_rfl
def rS256_6 (C : Nat → List V → H → Rr) (k : Nat) : E → H → Rr := ((Qxr (rJ256_2 C k) (Qxr (rJ256_1 C k) (rQ256 C k))) X.normal)
def rK256_6 (C : Nat → List V → H → Rr) (k : Nat) (x3 x4 x5 x17 x19 : V) (h : H) : Rr := (rB (vPick x17 (.b true) x19) fun v1 => (rK256_2 C k x3 x4 x5 v1 h))
def rJ256_6 (C : Nat → List V → H → Rr) (k : Nat) : E → H → Rr := fun e h => (rK256_6 C k (e 3) (e 4) (e 5) (e 17) (e 19) h)
theorem rp256_6 (C : Nat → List V → H → Rr) (k : Nat) : dnOps C o256_3 (rS256_6 C k) = (rJ256_6 C k) := by
  refine Eq.trans (rapp_eq rfl rfl) ?_
  kernel_rfl
def rK256 (C : Nat → List V → H → Rr) (k : Nat) (x0 x1 x2 x3 x4 : V) (h : H) : Rr := (rB (vBox x0 h) fun r1 => (rB (vBox x1 r1.2) fun r2 => (rB (vLdA r2.2 2 r1.1) fun v3 => (rB (vLdA r2.2 11 r2.1) fun v4 => (rK (C 257 [v3, v4] r2.2) fun v5 h6 => (rB (bin .geq x2 v5) fun v7 => (rG v7 false (rB (bin .lss x2 (.i .i64 0)) fun v8 => (rK256_6 C k x3 x4 r1.1 v7 v8 h6)) (rK256_6 C k x3 x4 r1.1 v7 undefV h6))))))))
theorem rp256 (C : Nat → List V → H → Rr) (k : Nat) : dn C k c256 (rQ256 C k) = fun e h => (rK256 C k (e 0) (e 1) (e 2) (e 3) (e 4) h) := by
  refine Eq.trans (rseq_eq (rseq_eq (rp256_1 C k) (rseq_eq (rp256_2 C k) (rregion_eq (rapp_eq (rgrp_eq2 17 false rfl (rp256_6 C k) rfl) rfl)))) rfl) ?_
  kernel_rfl
def F256 : RF := fun C k a h => match a with
  | [a0, a1, a2, a3, a4] => rK256 C k a0 a1 a2 a3 a4 h
  | _ => none
theorem ro256 : RunOK IP 256 F256 := ⟨ir256, ip256, by kernel_rfl, fun C k a h r e => by
  unfold F256 at e
  split at e
  · exact ⟨by kernel_rfl, (congrFun (congrFun (rp256 C k) _) h).trans e⟩
  · cases e⟩
theorem ip257 : IP 257 = some ir257 := rfl
def rQ257 (C : Nat → List V → H → Rr) (k : Nat) : X → E → H → Rr := Qrr rs257
def rQ257_1 (C : Nat → List V → H → Rr) (k : Nat) : X → E → H → Rr := (rQ257 C k)
def rK257_1 (C : Nat → List V → H → Rr) (k : Nat) (x2 : V) (h : H) : Rr := (rB (vFa 0 x2) fun v1 => (rB (vLd1 h v1) fun v2 => (rB (foldO max2 v2 [(.i .i64 0)]) fun v3 => (rB (foldO min2 v3 [(.i .i64 14)]) fun v4 => (some (v4, h))))))
def rJ257_1 (C : Nat → List V → H → Rr) (k : Nat) : E → H → Rr := fun e h => (rK257_1 C k (e 2) h)
theorem rp257_1 (C : Nat → List V → H → Rr) (k : Nat) : dn C k c257_1 (rQ257_1 C k) = (rJ257_1 C k) := by kernel_rfl
def rQ257_2 (C : Nat → List V → H → Rr) (k : Nat) : X → E → H → Rr := (Qxr (rJ257_1 C k) (rQ257 C k))
def rK257_2 (C : Nat → List V → H → Rr) (k : Nat) (x2 x16 : V) (h : H) : Rr := (rS x16 (some ((.i .i64 0), h)) (rK257_1 C k x2 h))
def rJ257_2 (C : Nat → List V → H → Rr) (k : Nat) : E → H → Rr := fun e h => (rK257_2 C k (e 2) (e 16) h)
theorem rp257_2 (C : Nat → List V → H → Rr) (k : Nat) : dn C k c257_2 (rQ257_2 C k) = (rJ257_2 C k) := by kernel_rfl
def rS257_8 (C : Nat → List V → H → Rr) (k : Nat) : E → H → Rr := ((Qxr (rJ257_2 C k) (Qxr (rJ257_1 C k) (rQ257 C k))) X.normal)
def rK257_8 (C : Nat → List V → H → Rr) (k : Nat) (x2 x11 x15 : V) (h : H) : Rr := (rB (vPick x11 (.b true) x15) fun v1 => (rK257_2 C k x2 v1 h))
def rJ257_8 (C : Nat → List V → H → Rr) (k : Nat) : E → H → Rr := fun e h => (rK257_8 C k (e 2) (e 11) (e 15) h)
theorem rp257_8 (C : Nat → List V → H → Rr) (k : Nat) : dnOps C o257_3 (rS257_8 C k) = (rJ257_8 C k) := by
  refine Eq.trans (rapp_eq rfl rfl) ?_
  kernel_rfl
def rS257_9 (C : Nat → List V → H → Rr) (k : Nat) : E → H → Rr := ((Qxr (rJ257_2 C k) (Qxr (rJ257_1 C k) (rQ257 C k))) X.normal)
def rK257_9 (C : Nat → List V → H → Rr) (k : Nat) (x2 x7 x9 : V) (h : H) : Rr := (rB (vPick x7 (.b true) x9) fun v1 => (rG v1 false (rB (vFa 1 x2) fun v2 => (rB (vLd1 h v2) fun v3 => (rK (C 136 [v3] h) fun v4 h5 => (rB (bin .eql v4 (.i .i64 0)) fun v6 => (rK257_8 C k x2 v1 v6 h5))))) (rK257_8 C k x2 v1 undefV h)))
def rJ257_9 (C : Nat → List V → H → Rr) (k : Nat) : E → H → Rr := fun e h => (rK257_9 C k (e 2) (e 7) (e 9) h)
theorem rp257_9 (C : Nat → List V → H → Rr) (k : Nat) : dnOps C o257_5 (rS257_9 C k) = (rJ257_9 C k) := by
  refine Eq.trans (rapp_eq (rgrp_eq2 11 false rfl (rp257_8 C k) rfl) rfl) ?_
  kernel_rfl
def rK257 (C : Nat → List V → H → Rr) (k : Nat) (x0 x1 : V) (h : H) : Rr := (rB (vBox x0 h) fun r1 => (rB (vBox x1 r1.2) fun r2 => (rB (vFa 7 r2.1) fun v3 => (rB (vLd1 r2.2 v3) fun v4 => (rG v4 false (rB (vFa 8 r2.1) fun v5 => (rB (vLd1 r2.2 v5) fun v6 => (rK257_9 C k r1.1 v4 v6 r2.2))) (rK257_9 C k r1.1 v4 undefV r2.2))))))
theorem rp257 (C : Nat → List V → H → Rr) (k : Nat) : dn C k c257 (rQ257 C k) = fun e h => (rK257 C k (e 0) (e 1) h) := by
  refine Eq.trans (rseq_eq (rseq_eq (rp257_1 C k) (rseq_eq (rp257_2 C k) (rregion_eq (rapp_eq (rgrp_eq2 7 false rfl (rp257_9 C k) rfl) rfl)))) rfl) ?_
  kernel_rfl
def F257 : RF := fun C k a h => match a with
  | [a0, a1] => rK257 C k a0 a1 h
  | _ => none
theorem ro257 : RunOK IP 257 F257 := ⟨ir257, ip257, by kernel_rfl, fun C k a h r e => by
  unfold F257 at e
  split at e
  · exact ⟨by kernel_rfl, (congrFun (congrFun (rp257 C k) _) h).trans e⟩
  · cases e⟩
def rtree : Tr RF := (.n (.n (.n (.n (.n (.n (.n .l (some F63) .l) none (.n .l (some F95) .l)) none (.n (.n (.n .l (some F143) .l) none (.n .l (some F207) .l)) none (.n .l (some F111) .l))) none (.n (.n (.n (.n .l (some F135) .l) none .l) none (.n .l (some F103) .l)) none (.n (.n (.n .l (some F151) .l) none .l) none (.n (.n .l (some F183) .l) none .l)))) none (.n (.n (.n (.n (.n .l (some F131) .l) none .l) (some F35) (.n .l (some F99) (.n .l (some F227) .l))) none (.n (.n (.n .l (some F147) .l) (some F83) .l) (some F51) (.n .l (some F115) .l))) none (.n (.n .l none (.n (.n .l (some F171) .l) (some F107) (.n .l (some F235) .l))) none (.n (.n .l (some F91) (.n .l (some F219) .l)) none (.n (.n .l (some F187) .l) none .l))))) none (.n (.n (.n (.n (.n (.n (.n .l (some F257) .l) (some F129) .l) none .l) (some F33) (.n .l (some F97) .l)) none (.n (.n (.n .l (some F145) .l) none .l) (some F49) (.n (.n .l (some F177) .l) (some F113) .l))) none (.n (.n (.n (.n .l (some F137) .l) none .l) (some F41) (.n .l (some F105) .l)) none (.n (.n .l (some F89) .l) (some F57) (.n (.n .l (some F185) .l) none .l)))) none (.n (.n (.n (.n (.n .l (some F133) .l) none .l) none (.n .l (some F101) .l)) (some F21) (.n (.n (.n .l (some F149) .l) (some F85) .l) none (.n (.n .l (some F181) .l) (some F117) .l))) none (.n (.n .l none (.n (.n .l (some F173) .l) (some F109) (.n .l (some F237) .l))) (some F29) (.n (.n (.n .l (some F157) .l) none (.n .l (some F221) .l)) (some F61) (.n (.n .l (some F189) .l) none .l)))))) none (.n (.n (.n (.n (.n (.n (.n (.n .l (some F256) .l) none .l) (some F64) .l) none (.n .l (some F96) .l)) none (.n (.n (.n .l (some F144) .l) none .l) none (.n .l (some F112) .l))) none (.n (.n (.n (.n .l (some F136) .l) none .l) (some F40) (.n .l (some F104) .l)) none (.n (.n .l (some F88) .l) none (.n (.n .l (some F184) .l) none (.n .l (some F248) .l))))) none (.n (.n (.n .l (some F36) (.n .l none (.n .l (some F228) .l))) none (.n (.n (.n .l (some F148) .l) none .l) (some F52) .l)) none (.n (.n .l none (.n .l (some F108) (.n .l (some F236) .l))) none (.n (.n .l none (.n .l (some F220) .l)) (some F60) (.n (.n .l (some F188) .l) (some F124) .l))))) none (.n (.n (.n (.n (.n (.n .l (some F130) .l) none .l) none (.n .l (some F98) .l)) none (.n .l (some F50) (.n (.n .l (some F178) .l) (some F114) .l))) none (.n (.n .l none (.n (.n .l (some F170) .l) (some F106) (.n .l (some F234) .l))) (some F26) (.n (.n .l (some F90) (.n .l (some F218) .l)) (some F58) (.n (.n .l (some F186) .l) none .l)))) none (.n (.n (.n (.n (.n .l (some F134) .l) none .l) (some F38) (.n .l (some F102) .l)) none (.n (.n (.n .l (some F150) .l) (some F86) .l) none (.n (.n .l (some F182) .l) none .l))) none (.n (.n (.n (.n .l (some F142) .l) none .l) none (.n .l (some F110) .l)) (some F30) (.n (.n .l (some F94) (.n .l (some F222) .l)) (some F62) (.n (.n .l (some F190) .l) none .l)))))))
def RP (f : Nat) : Option RF := rtree.get f
theorem rall : rtree.All (RunOK IP) 1 0 :=
  ⟨(fun _ h => by cases h), ⟨(fun _ h => by cases h), ⟨(fun _ h => by cases h), ⟨(fun _ h => by cases h), ⟨(fun _ h => by cases h), ⟨(fun _ h => by cases h), ⟨(fun _ h => by cases h; exact ro63), trivial, trivial⟩, ⟨(fun _ h => by cases h; exact ro95), trivial, trivial⟩⟩, ⟨(fun _ h => by cases h), ⟨(fun _ h => by cases h), ⟨(fun _ h => by cases h; exact ro143), trivial, trivial⟩, ⟨(fun _ h => by cases h; exact ro207), trivial, trivial⟩⟩, ⟨(fun _ h => by cases h; exact ro111), trivial, trivial⟩⟩⟩, ⟨(fun _ h => by cases h), ⟨(fun _ h => by cases h), ⟨(fun _ h => by cases h), ⟨(fun _ h => by cases h; exact ro135), trivial, trivial⟩, trivial⟩, ⟨(fun _ h => by cases h; exact ro103), trivial, trivial⟩⟩, ⟨(fun _ h => by cases h), ⟨(fun _ h => by cases h), ⟨(fun _ h => by cases h; exact ro151), trivial, trivial⟩, trivial⟩, ⟨(fun _ h => by cases h), ⟨(fun _ h => by cases h; exact ro183), trivial, trivial⟩, trivial⟩⟩⟩⟩, ⟨(fun _ h => by cases h), ⟨(fun _ h => by cases h), ⟨(fun _ h => by cases h; exact ro35), ⟨(fun _ h => by cases h), ⟨(fun _ h => by cases h; exact ro131), trivial, trivial⟩, trivial⟩, ⟨(fun _ h => by cases h; exact ro99), trivial, ⟨(fun _ h => by cases h; exact ro227), trivial, trivial⟩⟩⟩, ⟨(fun _ h => by cases h; exact ro51), ⟨(fun _ h => by cases h; exact ro83), ⟨(fun _ h => by cases h; exact ro147), trivial, trivial⟩, trivial⟩, ⟨(fun _ h => by cases h; exact ro115), trivial, trivial⟩⟩⟩, ⟨(fun _ h => by cases h), ⟨(fun _ h => by cases h), trivial, ⟨(fun _ h => by cases h; exact ro107), ⟨(fun _ h => by cases h; exact ro171), trivial, trivial⟩, ⟨(fun _ h => by cases h; exact ro235), trivial, trivial⟩⟩⟩, ⟨(fun _ h => by cases h), ⟨(fun _ h => by cases h; exact ro91), trivial, ⟨(fun _ h => by cases h; exact ro219), trivial, trivial⟩⟩, ⟨(fun _ h => by cases h), ⟨(fun _ h => by cases h; exact ro187), trivial, trivial⟩, trivial⟩⟩⟩⟩⟩, ⟨(fun _ h => by cases h), ⟨(fun _ h => by cases h), ⟨(fun _ h => by cases h), ⟨(fun _ h => by cases h; exact ro33), ⟨(fun _ h => by cases h), ⟨(fun _ h => by cases h; exact ro129), ⟨(fun _ h => by cases h; exact ro257), trivial, trivial⟩, trivial⟩, trivial⟩, ⟨(fun _ h => by cases h; exact ro97), trivial, trivial⟩⟩, ⟨(fun _ h => by cases h; exact ro49), ⟨(fun _ h => by cases h), ⟨(fun _ h => by cases h; exact ro145), trivial, trivial⟩, trivial⟩, ⟨(fun _ h => by cases h; exact ro113), ⟨(fun _ h => by cases h; exact ro177), trivial, trivial⟩, trivial⟩⟩⟩, ⟨(fun _ h => by cases h), ⟨(fun _ h => by cases h; exact ro41), ⟨(fun _ h => by cases h), ⟨(fun _ h => by cases h; exact ro137), trivial, trivial⟩, trivial⟩, ⟨(fun _ h => by cases h; exact ro105), trivial, trivial⟩⟩, ⟨(fun _ h => by cases h; exact ro57), ⟨(fun _ h => by cases h; exact ro89), trivial, trivial⟩, ⟨(fun _ h => by cases h), ⟨(fun _ h => by cases h; exact ro185), trivial, trivial⟩, trivial⟩⟩⟩⟩, ⟨(fun _ h => by cases h), ⟨(fun _ h => by cases h; exact ro21), ⟨(fun _ h => by cases h), ⟨(fun _ h => by cases h), ⟨(fun _ h => by cases h; exact ro133), trivial, trivial⟩, trivial⟩, ⟨(fun _ h => by cases h; exact ro101), trivial, trivial⟩⟩, ⟨(fun _ h => by cases h), ⟨(fun _ h => by cases h; exact ro85), ⟨(fun _ h => by cases h; exact ro149), trivial, trivial⟩, trivial⟩, ⟨(fun _ h => by cases h; exact ro117), ⟨(fun _ h => by cases h; exact ro181), trivial, trivial⟩, trivial⟩⟩⟩, ⟨(fun _ h => by cases h; exact ro29), ⟨(fun _ h => by cases h), trivial, ⟨(fun _ h => by cases h; exact ro109), ⟨(fun _ h => by cases h; exact ro173), trivial, trivial⟩, ⟨(fun _ h => by cases h; exact ro237), trivial, trivial⟩⟩⟩, ⟨(fun _ h => by cases h; exact ro61), ⟨(fun _ h => by cases h), ⟨(fun _ h => by cases h; exact ro157), trivial, trivial⟩, ⟨(fun _ h => by cases h; exact ro221), trivial, trivial⟩⟩, ⟨(fun _ h => by cases h), ⟨(fun _ h => by cases h; exact ro189), trivial, trivial⟩, trivial⟩⟩⟩⟩⟩⟩, ⟨(fun _ h => by cases h), ⟨(fun _ h => by cases h), ⟨(fun _ h => by cases h), ⟨(fun _ h => by cases h), ⟨(fun _ h => by cases h), ⟨(fun _ h => by cases h; exact ro64), ⟨(fun _ h => by cases h), ⟨(fun _ h => by cases h; exact ro256), trivial, trivial⟩, trivial⟩, trivial⟩, ⟨(fun _ h => by cases h; exact ro96), trivial, trivial⟩⟩, ⟨(fun _ h => by cases h), ⟨(fun _ h => by cases h), ⟨(fun _ h => by cases h; exact ro144), trivial, trivial⟩, trivial⟩, ⟨(fun _ h => by cases h; exact ro112), trivial, trivial⟩⟩⟩, ⟨(fun _ h => by cases h), ⟨(fun _ h => by cases h; exact ro40), ⟨(fun _ h => by cases h), ⟨(fun _ h => by cases h; exact ro136), trivial, trivial⟩, trivial⟩, ⟨(fun _ h => by cases h; exact ro104), trivial, trivial⟩⟩, ⟨(fun _ h => by cases h), ⟨(fun _ h => by cases h; exact ro88), trivial, trivial⟩, ⟨(fun _ h => by cases h), ⟨(fun _ h => by cases h; exact ro184), trivial, trivial⟩, ⟨(fun _ h => by cases h; exact ro248), trivial, trivial⟩⟩⟩⟩⟩, ⟨(fun _ h => by cases h), ⟨(fun _ h => by cases h), ⟨(fun _ h => by cases h; exact ro36), trivial, ⟨(fun _ h => by cases h), trivial, ⟨(fun _ h => by cases h; exact ro228), trivial, trivial⟩⟩⟩, ⟨(fun _ h => by cases h; exact ro52), ⟨(fun _ h => by cases h), ⟨(fun _ h => by cases h; exact ro148), trivial, trivial⟩, trivial⟩, trivial⟩⟩, ⟨(fun _ h => by cases h), ⟨(fun _ h => by cases h), trivial, ⟨(fun _ h => by cases h; exact ro108), trivial, ⟨(fun _ h => by cases h; exact ro236), trivial, trivial⟩⟩⟩, ⟨(fun _ h => by cases h; exact ro60), ⟨(fun _ h => by cases h), trivial, ⟨(fun _ h => by cases h; exact ro220), trivial, trivial⟩⟩, ⟨(fun _ h => by cases h; exact ro124), ⟨(fun _ h => by cases h; exact ro188), trivial, trivial⟩, trivial⟩⟩⟩⟩⟩, ⟨(fun _ h => by cases h), ⟨(fun _ h => by cases h), ⟨(fun _ h => by cases h), ⟨(fun _ h => by cases h), ⟨(fun _ h => by cases h), ⟨(fun _ h => by cases h; exact ro130), trivial, trivial⟩, trivial⟩, ⟨(fun _ h => by cases h; exact ro98), trivial, trivial⟩⟩, ⟨(fun _ h => by cases h; exact ro50), trivial, ⟨(fun _ h => by cases h; exact ro114), ⟨(fun _ h => by cases h; exact ro178), trivial, trivial⟩, trivial⟩⟩⟩, ⟨(fun _ h => by cases h; exact ro26), ⟨(fun _ h => by cases h), trivial, ⟨(fun _ h => by cases h; exact ro106), ⟨(fun _ h => by cases h; exact ro170), trivial, trivial⟩, ⟨(fun _ h => by cases h; exact ro234), trivial, trivial⟩⟩⟩, ⟨(fun _ h => by cases h; exact ro58), ⟨(fun _ h => by cases h; exact ro90), trivial, ⟨(fun _ h => by cases h; exact ro218), trivial, trivial⟩⟩, ⟨(fun _ h => by cases h), ⟨(fun _ h => by cases h; exact ro186), trivial, trivial⟩, trivial⟩⟩⟩⟩, ⟨(fun _ h => by cases h), ⟨(fun _ h => by cases h), ⟨(fun _ h => by cases h; exact ro38), ⟨(fun _ h => by cases h), ⟨(fun _ h => by cases h; exact ro134), trivial, trivial⟩, trivial⟩, ⟨(fun _ h => by cases h; exact ro102), trivial, trivial⟩⟩, ⟨(fun _ h => by cases h), ⟨(fun _ h => by cases h; exact ro86), ⟨(fun _ h => by cases h; exact ro150), trivial, trivial⟩, trivial⟩, ⟨(fun _ h => by cases h), ⟨(fun _ h => by cases h; exact ro182), trivial, trivial⟩, trivial⟩⟩⟩, ⟨(fun _ h => by cases h; exact ro30), ⟨(fun _ h => by cases h), ⟨(fun _ h => by cases h), ⟨(fun _ h => by cases h; exact ro142), trivial, trivial⟩, trivial⟩, ⟨(fun _ h => by cases h; exact ro110), trivial, trivial⟩⟩, ⟨(fun _ h => by cases h; exact ro62), ⟨(fun _ h => by cases h; exact ro94), trivial, ⟨(fun _ h => by cases h; exact ro222), trivial, trivial⟩⟩, ⟨(fun _ h => by cases h), ⟨(fun _ h => by cases h; exact ro190), trivial, trivial⟩, trivial⟩⟩⟩⟩⟩⟩⟩
theorem runs {k f : Nat} {a : List V} {h : H} {r : V × H} (e : run RP k f a h = some r) : ev IP k f a h = some r := run_ev (runOK_of_tree rall) k f a h r e
end Go.Proofs.YtbbencnhecokiaaGreatDoor.IrClientNone
