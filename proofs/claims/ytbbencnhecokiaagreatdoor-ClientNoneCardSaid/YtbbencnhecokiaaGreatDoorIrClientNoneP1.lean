/-
  The abstract machine's text of the functions that ClientNone reaches, and: it is the loaded program's. Then the functions without temporaries.
-/
import Derived.Test.YtbbencnhecokiaaGreatDoorProg
import Derived.Test.YtbbencnhecokiaaGreatDoorMxT
import Derived.Test.YtbbencnhecokiaaGreatDoorMxU
import Derived.Test.YtbbencnhecokiaaGreatDoorMxV
import Derived.Test.YtbbencnhecokiaaGreatDoorMxX
import Derived.Test.YtbbencnhecokiaaGreatDoorIrClientNoneP0
namespace Go.Proofs.YtbbencnhecokiaaGreatDoor.IrClientNone
open Go Mx
set_option maxRecDepth 100000
set_option linter.unusedVariables false
theorem ip36 : IP 36 = some ir36 := rfl
def rQ36 (C : Nat → List V → H → Rr) (k : Nat) : X → E → H → Rr := Qrr rs36
def rS36_10 (C : Nat → List V → H → Rr) (k : Nat) : E → H → Rr := ((Qxr (dn C k .ret (rQ36 C k)) (rQ36 C k)) X.normal)
def rK36_10 (C : Nat → List V → H → Rr) (k : Nat) (x27 x31 : V) (h : H) : Rr := (rB (vPick x27 x31 (.b false)) fun v1 => (some (v1, h)))
def rJ36_10 (C : Nat → List V → H → Rr) (k : Nat) : E → H → Rr := fun e h => (rK36_10 C k (e 27) (e 31) h)
theorem rp36_10 (C : Nat → List V → H → Rr) (k : Nat) : dnOps C o36_1 (rS36_10 C k) = (rJ36_10 C k) := by
  refine Eq.trans (rapp_eq rfl rfl) ?_
  kernel_rfl
def rS36_11 (C : Nat → List V → H → Rr) (k : Nat) : E → H → Rr := ((Qxr (dn C k .ret (rQ36 C k)) (rQ36 C k)) X.normal)
def rK36_11 (C : Nat → List V → H → Rr) (k : Nat) (x1 x21 x25 : V) (h : H) : Rr := (rB (vPick x21 x25 (.b false)) fun v1 => (rG v1 true (rB (vFa 0 x1) fun v2 => (rB (vLd1 h v2) fun v3 => (rK (C 41 [v3] h) fun v4 h5 => (rB (bin .eql v4 (.i .i64 1)) fun v6 => (rK36_10 C k v1 v6 h5))))) (rK36_10 C k v1 undefV h)))
def rJ36_11 (C : Nat → List V → H → Rr) (k : Nat) : E → H → Rr := fun e h => (rK36_11 C k (e 1) (e 21) (e 25) h)
theorem rp36_11 (C : Nat → List V → H → Rr) (k : Nat) : dnOps C o36_3 (rS36_11 C k) = (rJ36_11 C k) := by
  refine Eq.trans (rapp_eq (rgrp_eq2 27 true rfl (rp36_10 C k) rfl) rfl) ?_
  kernel_rfl
def rS36_12 (C : Nat → List V → H → Rr) (k : Nat) : E → H → Rr := ((Qxr (dn C k .ret (rQ36 C k)) (rQ36 C k)) X.normal)
def rK36_12 (C : Nat → List V → H → Rr) (k : Nat) (x1 x15 x19 : V) (h : H) : Rr := (rB (vPick x15 x19 (.b false)) fun v1 => (rG v1 true (rB (vLdA h 18 x1) fun v2 => (rK (C 40 [v2] h) fun v3 h4 => (rB (vFld false 10 1 v3) fun v5 => (rB (bin .eql v5 (.i .i64 0)) fun v6 => (rK36_11 C k x1 v1 v6 h4))))) (rK36_11 C k x1 v1 undefV h)))
def rJ36_12 (C : Nat → List V → H → Rr) (k : Nat) : E → H → Rr := fun e h => (rK36_12 C k (e 1) (e 15) (e 19) h)
theorem rp36_12 (C : Nat → List V → H → Rr) (k : Nat) : dnOps C o36_5 (rS36_12 C k) = (rJ36_12 C k) := by
  refine Eq.trans (rapp_eq (rgrp_eq2 21 true rfl (rp36_11 C k) rfl) rfl) ?_
  kernel_rfl
def rS36_13 (C : Nat → List V → H → Rr) (k : Nat) : E → H → Rr := ((Qxr (dn C k .ret (rQ36 C k)) (rQ36 C k)) X.normal)
def rK36_13 (C : Nat → List V → H → Rr) (k : Nat) (x1 x9 x13 : V) (h : H) : Rr := (rB (vPick x9 x13 (.b false)) fun v1 => (rG v1 true (rB (vLdA h 18 x1) fun v2 => (rK (C 40 [v2] h) fun v3 h4 => (rB (vFld false 0 1 v3) fun v5 => (rB (bin .eql v5 (.i .i64 1)) fun v6 => (rK36_12 C k x1 v1 v6 h4))))) (rK36_12 C k x1 v1 undefV h)))
def rJ36_13 (C : Nat → List V → H → Rr) (k : Nat) : E → H → Rr := fun e h => (rK36_13 C k (e 1) (e 9) (e 13) h)
theorem rp36_13 (C : Nat → List V → H → Rr) (k : Nat) : dnOps C o36_7 (rS36_13 C k) = (rJ36_13 C k) := by
  refine Eq.trans (rapp_eq (rgrp_eq2 15 true rfl (rp36_12 C k) rfl) rfl) ?_
  kernel_rfl
def rK36 (C : Nat → List V → H → Rr) (k : Nat) (h : H) : Rr := (rK (C 30 [(.i .i64 2)] h) fun v1 h2 => (rK (C 29 [v1, (.i .i64 4), (.i .i64 2), (.i .i64 9)] h2) fun v3 h4 => (rB (some (.p (some (H.nx h4, 0)), H.new h4 ⟨false, [(.p none), (.p none), .nsl, .nsl, (.i .i64 0), (.i .i64 0), (.i .i64 0), (.i .i64 0), (.i .i64 0), (.i .i64 0), (.i .i64 0), (.i .u64 0), (.i .u64 0), (.i .u64 0), (.i .u64 0), .nsl, (.i .i64 0), (.b false)]⟩)) fun r5 => (rB (vStore r5.2 18 r5.1 v3) fun r6 => (rB (vLdA r6.2 18 r5.1) fun v7 => (rB (vBld [(.i .i64 0), (.i .i64 0), (.i .i64 0), (.i .u32 0), (.b false), (.i .i64 0), (.i .u32 0)] [(0, 1, (.i .i64 0)), (2, 1, (.i .i64 0)), (3, 1, (.i .u32 5)), (5, 1, (.i .i64 10))]) fun v8 => (rK (C 38 [v7, v8, (.i .i64 40)] r6.2) fun v9 h10 => (rB (vStore h10 18 r5.1 v9) fun r11 => (rB (vFa 17 r5.1) fun v12 => (rB (vLd1 r11.2 v12) fun v13 => (rG v13 true (rB (vFa 15 r5.1) fun v14 => (rB (vLd1 r11.2 v14) fun v15 => (rB (vLens v15) fun v16 => (rB (bin .eql v16 (.i .i64 2)) fun v17 => (rK36_13 C k r5.1 v13 v17 r11.2))))) (rK36_13 C k r5.1 v13 undefV r11.2))))))))))))
theorem rp36 (C : Nat → List V → H → Rr) (k : Nat) : dn C k c36 (rQ36 C k) = fun e h => (rK36 C k h) := by
  refine Eq.trans (rseq_eq (rseq_eq (rseq_eq (rseq_eq rfl (rregion_eq (rapp_eq (rgrp_eq2 9 true rfl (rp36_13 C k) rfl) rfl))) rfl) rfl) rfl) ?_
  kernel_rfl
def F36 : RF := fun C k a h => match a with
  | [] => rK36 C k h
  | _ => none
theorem ro36 : RunOK IP 36 F36 := ⟨ir36, ip36, by kernel_rfl, fun C k a h r e => by
  unfold F36 at e
  split at e
  · exact ⟨by kernel_rfl, (congrFun (congrFun (rp36 C k) _) h).trans e⟩
  · cases e⟩
theorem ip38 : IP 38 = some ir38 := rfl
def rQ38 (C : Nat → List V → H → Rr) (k : Nat) : X → E → H → Rr := Qrr rs38
def rQ38_1 (C : Nat → List V → H → Rr) (k : Nat) : X → E → H → Rr := (rQ38 C k)
def rK38_1 (C : Nat → List V → H → Rr) (k : Nat) (x3 x6 : V) (h : H) : Rr := (rB (vLdA h 18 x3) fun v1 => (rB (vStore h 18 x6 v1) fun r2 => (rB (vLdA r2.2 18 x6) fun v3 => (some (v3, r2.2)))))
def rJ38_1 (C : Nat → List V → H → Rr) (k : Nat) : E → H → Rr := fun e h => (rK38_1 C k (e 3) (e 6) h)
theorem rp38_1 (C : Nat → List V → H → Rr) (k : Nat) : dn C k c38_1 (rQ38_1 C k) = (rJ38_1 C k) := by kernel_rfl
def rR38_2 (C : Nat → List V → H → Rr) (k : Nat) : X → E → H → Rr := (Qbr 0 (Qxr (rJ38_1 C k) (rQ38 C k)))
def rQ38_2 (C : Nat → List V → H → Rr) (k : Nat) (g38_2 : V → V → V → V → H → Rr) : X → E → H → Rr := Qxr (fun e h => g38_2 (e 2) (e 3) (e 6) (e 7) h) (rR38_2 C k)
def rQ38_3 (C : Nat → List V → H → Rr) (k : Nat) (g38_2 : V → V → V → V → H → Rr) : X → E → H → Rr := (rQ38_2 C k g38_2)
def rK38_3 (C : Nat → List V → H → Rr) (k : Nat) (g38_2 : V → V → V → V → H → Rr) (x2 x3 x6 x7 : V) (h : H) : Rr := (rB (vLdA h 18 x3) fun v1 => (rK (C 35 [v1, (.b false)] h) fun v2 h3 => (rB (vStore h3 18 x3 v2) fun r4 => (rB (bin .add x7 (.i .i64 1)) fun v5 => (g38_2 x2 x3 x6 v5 r4.2)))))
def rJ38_3 (C : Nat → List V → H → Rr) (k : Nat) (g38_2 : V → V → V → V → H → Rr) : E → H → Rr := fun e h => (rK38_3 C k g38_2 (e 2) (e 3) (e 6) (e 7) h)
theorem rp38_3 (C : Nat → List V → H → Rr) (k : Nat) (g38_2 : V → V → V → V → H → Rr) : dn C k c38_3 (rQ38_3 C k g38_2) = (rJ38_3 C k g38_2) := by kernel_rfl
def rQ38_4 (C : Nat → List V → H → Rr) (k : Nat) (g38_2 : V → V → V → V → H → Rr) : X → E → H → Rr := (Qxr (rJ38_3 C k g38_2) (rQ38_2 C k g38_2))
def rK38_4 (C : Nat → List V → H → Rr) (k : Nat) (g38_2 : V → V → V → V → H → Rr) (x2 x3 x6 x7 x24 : V) (h : H) : Rr := (rS x24 (rK38_3 C k g38_2 x2 x3 x6 x7 h) (rK38_1 C k x3 x6 h))
def rJ38_4 (C : Nat → List V → H → Rr) (k : Nat) (g38_2 : V → V → V → V → H → Rr) : E → H → Rr := fun e h => (rK38_4 C k g38_2 (e 2) (e 3) (e 6) (e 7) (e 24) h)
theorem rp38_4 (C : Nat → List V → H → Rr) (k : Nat) (g38_2 : V → V → V → V → H → Rr) : dn C k c38_4 (rQ38_4 C k g38_2) = (rJ38_4 C k g38_2) := by kernel_rfl
def rS38_8 (C : Nat → List V → H → Rr) (k : Nat) (g38_2 : V → V → V → V → H → Rr) : E → H → Rr := ((Qxr (rJ38_4 C k g38_2) (Qxr (rJ38_3 C k g38_2) (rQ38_2 C k g38_2))) X.normal)
def rK38_8 (C : Nat → List V → H → Rr) (k : Nat) (g38_2 : V → V → V → V → H → Rr) (x2 x3 x6 x7 x19 x23 : V) (h : H) : Rr := (rB (vPick x19 x23 (.b false)) fun v1 => (rK38_4 C k g38_2 x2 x3 x6 x7 v1 h))
def rJ38_8 (C : Nat → List V → H → Rr) (k : Nat) (g38_2 : V → V → V → V → H → Rr) : E → H → Rr := fun e h => (rK38_8 C k g38_2 (e 2) (e 3) (e 6) (e 7) (e 19) (e 23) h)
theorem rp38_8 (C : Nat → List V → H → Rr) (k : Nat) (g38_2 : V → V → V → V → H → Rr) : dnOps C o38_5 (rS38_8 C k g38_2) = (rJ38_8 C k g38_2) := by
  refine Eq.trans (rapp_eq rfl rfl) ?_
  kernel_rfl
def rL38_2 (C : Nat → List V → H → Rr) (k : Nat) (g38_2 : V → V → V → V → H → Rr) (x2 x3 x6 x7 : V) (h : H) : Rr := (rB (bin .lss x7 x2) fun v1 => (rG v1 true (rB (vFa 0 x3) fun v2 => (rB (vLd1 h v2) fun v3 => (rK (C 52 [v3] h) fun v4 h5 => (rB (un .not v4) fun v6 => (rK38_8 C k g38_2 x2 x3 x6 x7 v1 v6 h5))))) (rK38_8 C k g38_2 x2 x3 x6 x7 v1 undefV h)))
theorem rp38_2 (C : Nat → List V → H → Rr) (k : Nat) (g38_2 : V → V → V → V → H → Rr) : dn C k c38_2 (rQ38_2 C k g38_2) = fun e h => (rL38_2 C k g38_2 (e 2) (e 3) (e 6) (e 7) h) := by
  refine Eq.trans (rseq_eq (rp38_3 C k g38_2) (rseq_eq (rp38_4 C k g38_2) (rregion_eq (rapp_eq (rgrp_eq2 19 true rfl (rp38_8 C k g38_2) rfl) rfl)))) ?_
  kernel_rfl
def rW38_2 (C : Nat → List V → H → Rr) (k : Nat) (x2 x3 x6 x7 : V) (h : H) : Rr := rFix k (fun (g : V × V × V × V × Unit → H → Rr) (x : V × V × V × V × Unit) h => rL38_2 C k (fun y2 y3 y6 y7 h => g (y2, y3, y6, y7, ()) h) x.1 x.2.1 x.2.2.1 x.2.2.2.1 h) (x2, x3, x6, x7, ()) h
theorem rn38_2 (C : Nat → List V → H → Rr) (k : Nat) : ∀ g : V × V × V × V × Unit → H → Rr, dn C k c38_2 (Qxr (fun e h => g ((fun e : E => ((e 2, e 3, e 6, e 7, ()) : V × V × V × V × Unit)) e) h) (rR38_2 C k)) = fun e h => (fun (g : V × V × V × V × Unit → H → Rr) (x : V × V × V × V × Unit) h => rL38_2 C k (fun y2 y3 y6 y7 h => g (y2, y3, y6, y7, ()) h) x.1 x.2.1 x.2.2.1 x.2.2.2.1 h) g ((fun e : E => ((e 2, e 3, e 6, e 7, ()) : V × V × V × V × Unit)) e) h := fun g => rp38_2 C k (fun y2 y3 y6 y7 h => g (y2, y3, y6, y7, ()) h)
theorem rw38_2 (C : Nat → List V → H → Rr) (k : Nat) : dn C k (.loop c38_2) (rR38_2 C k) = fun e h => (rW38_2 C k (e 2) (e 3) (e 6) (e 7) h) := rloop_eq (fun e : E => ((e 2, e 3, e 6, e 7, ()) : V × V × V × V × Unit)) (fun (g : V × V × V × V × Unit → H → Rr) (x : V × V × V × V × Unit) h => rL38_2 C k (fun y2 y3 y6 y7 h => g (y2, y3, y6, y7, ()) h) x.1 x.2.1 x.2.2.1 x.2.2.2.1 h) (rn38_2 C k)
def rK38 (C : Nat → List V → H → Rr) (k : Nat) (x0 x1 x2 : V) (h : H) : Rr := (rB (vBox x0 h) fun r1 => (rB (vBox x1 r1.2) fun r2 => (rB (some (.p (some (H.nx r2.2, 0)), H.new r2.2 ⟨false, [(.p none), (.p none), .nsl, .nsl, (.i .i64 0), (.i .i64 0), (.i .i64 0), (.i .i64 0), (.i .i64 0), (.i .i64 0), (.i .i64 0), (.i .u64 0), (.i .u64 0), (.i .u64 0), (.i .u64 0), .nsl, (.i .i64 0), (.b false)]⟩)) fun r3 => (rB (vFa 0 r1.1) fun v4 => (rB (vLd1 r3.2 v4) fun v5 => (rB (vLdA r3.2 7 r2.1) fun v6 => (rB (vFa 16 r1.1) fun v7 => (rB (vLd1 r3.2 v7) fun v8 => (rK (C 33 [v5, v6, v8] r3.2) fun v9 h10 => (rB (vLdA h10 18 r1.1) fun v11 => (rK (C 35 [v11, (.b false)] h10) fun v12 h13 => (rB (vStore h13 18 r1.1 v12) fun r14 => (rW38_2 C k x2 r1.1 r3.1 (.i .i64 1) r14.2)))))))))))))
theorem rp38 (C : Nat → List V → H → Rr) (k : Nat) : dn C k c38 (rQ38 C k) = fun e h => (rK38 C k (e 0) (e 1) (e 2) h) := by
  refine Eq.trans (rseq_eq (rseq_eq (rseq_eq (rseq_eq (rp38_1 C k) (rseq_eq (rblock_eq (rw38_2 C k)) rfl)) rfl) rfl) rfl) ?_
  kernel_rfl
def F38 : RF := fun C k a h => match a with
  | [a0, a1, a2] => rK38 C k a0 a1 a2 h
  | _ => none
theorem ro38 : RunOK IP 38 F38 := ⟨ir38, ip38, by kernel_rfl, fun C k a h r e => by
  unfold F38 at e
  split at e
  · exact ⟨by kernel_rfl, (congrFun (congrFun (rp38 C k) _) h).trans e⟩
  · cases e⟩
theorem ip40 : IP 40 = some ir40 := rfl
def rQ40 (C : Nat → List V → H → Rr) (k : Nat) : X → E → H → Rr := Qrr rs40
def rK40 (C : Nat → List V → H → Rr) (k : Nat) (x0 : V) (h : H) : Rr := (rB (vBox x0 h) fun r1 => (rB (some (.p (some (H.nx r1.2, 0)), H.new r1.2 ⟨false, [(.i .i64 0), (.i .i64 0), (.i .u32 0), (.i .i64 0), (.i .i64 0), (.i .i64 0), (.i .u32 0), (.b false), (.i .i64 0), (.i .u32 0), (.i .i64 0), (.i .i64 0), (.i .i64 0), (.i .u32 0), (.i .i64 0)]⟩)) fun r2 => (rB (vFa 15 r1.1) fun v3 => (rB (vLd1 r2.2 v3) fun v4 => (rB (vLens v4) fun v5 => (rB (bin .eql v5 (.i .i64 0)) fun v6 => (rS v6 (rB (vBld [(.i .i64 0), (.i .i64 0), (.i .u32 0), (.i .i64 0), (.i .i64 0), (.i .i64 0), (.i .u32 0), (.b false), (.i .i64 0), (.i .u32 0), (.i .i64 0), (.i .i64 0), (.i .i64 0), (.i .u32 0), (.i .i64 0)] []) fun v7 => (rB (vStore r2.2 15 r2.1 v7) fun r8 => (rB (vLdA r8.2 15 r2.1) fun v9 => (some (v9, r8.2))))) (rB (vFa 15 r1.1) fun v10 => (rB (vLd1 r2.2 v10) fun v11 => (rB (vFa 15 r1.1) fun v12 => (rB (vLd1 r2.2 v12) fun v13 => (rB (vLens v13) fun v14 => (rB (bin .sub v14 (.i .i64 1)) fun v15 => (rB (vIa 15 v11 v15) fun v16 => (rB (vLdA r2.2 15 v16) fun v17 => (rB (vStore r2.2 15 r2.1 v17) fun r18 => (rB (vLdA r18.2 15 r2.1) fun v19 => (some (v19, r18.2)))))))))))))))))))
theorem rp40 (C : Nat → List V → H → Rr) (k : Nat) : dn C k c40 (rQ40 C k) = fun e h => (rK40 C k (e 0) h) := by kernel_rfl
def F40 : RF := fun C k a h => match a with
  | [a0] => rK40 C k a0 h
  | _ => none
theorem ro40 : RunOK IP 40 F40 := ⟨ir40, ip40, by kernel_rfl, fun C k a h r e => by
  unfold F40 at e
  split at e
  · exact ⟨by kernel_rfl, (congrFun (congrFun (rp40 C k) _) h).trans e⟩
  · cases e⟩
theorem ip41 : IP 41 = some ir41 := rfl
def Q41 [q : Hid (V → H → Prop)] : X → E → H → Prop := Qr rs41 q.un
def Q41_1 [q : Hid (V → H → Prop)] : X → E → H → Prop := (@Q41 q)
def K41_1 (x3 : V) (h : H) [q : Hid (V → H → Prop)] : Prop := @Hid.un (V → H → Prop) q x3 h
def J41_1 [q : Hid (V → H → Prop)] : E → H → Prop := fun e h => @K41_1 (e 3) h q
theorem p41_1 [q : Hid (V → H → Prop)] : den IP c41_1 (@Q41_1 q) = (@J41_1 q) := by kernel_rfl
def R41_2 [q : Hid (V → H → Prop)] : X → E → H → Prop := (Qb 0 (Qx (@J41_1 q) (@Q41 q)))
def Q41_2 [q : Hid (V → H → Prop)] [g41_2 : Hid (V → V → V → V → V → H → Prop)] : X → E → H → Prop := Qx (fun e h => g41_2.un (e 0) (e 3) (e 13) (e 14) (e 15) h) (@R41_2 q)
def Q41_3 [q : Hid (V → H → Prop)] [g41_2 : Hid (V → V → V → V → V → H → Prop)] : X → E → H → Prop := (@Q41_2 q g41_2)
def K41_3 (x0 x3 x13 x14 x15 : V) (h : H) [q : Hid (V → H → Prop)] [g41_2 : Hid (V → V → V → V → V → H → Prop)] : Prop := @Bnd V (bin .add x15 (.i .i64 1)) ⟨fun v1 => @Hid.un (V → V → V → V → V → H → Prop) g41_2 x0 x3 x13 x14 v1 h⟩
def J41_3 [q : Hid (V → H → Prop)] [g41_2 : Hid (V → V → V → V → V → H → Prop)] : E → H → Prop := fun e h => @K41_3 (e 0) (e 3) (e 13) (e 14) (e 15) h q g41_2
theorem p41_3 [q : Hid (V → H → Prop)] [g41_2 : Hid (V → V → V → V → V → H → Prop)] : den IP c41_3 (@Q41_3 q g41_2) = (@J41_3 q g41_2) := by kernel_rfl
def L41_2 (x0 x3 x13 x14 x15 : V) (h : H) [q : Hid (V → H → Prop)] [g41_2 : Hid (V → V → V → V → V → H → Prop)] : Prop := @Bnd V (bin .lss x15 x14) ⟨fun v1 => @Sel v1 ⟨@Bnd V (vIa 1 x13 x15) ⟨fun v2 => @Bnd V (vLd1 h v2) ⟨fun v3 => @Bnd V (vNilc x0) ⟨fun v4 => @Bnd V (vFa 29 v4) ⟨fun v5 => @Bnd V (vLd1 h v5) ⟨fun v6 => @wF IP 90 [v6, v3] h ⟨fun v7 h8 => @Bnd V (vNilc v7) ⟨fun v9 => @Bnd V (vFa 12 v9) ⟨fun v10 => @Bnd V (vLd1 h8 v10) ⟨fun v11 => @Bnd V (bin .eql v11 (.i .i64 0)) ⟨fun v12 => @Sel v12 ⟨@Bnd V (bin .add x3 (.i .i64 1)) ⟨fun v13 => @K41_3 x0 v13 x13 x14 x15 h8 q g41_2⟩⟩ ⟨@K41_3 x0 x3 x13 x14 x15 h8 q g41_2⟩⟩⟩⟩⟩⟩⟩⟩⟩⟩⟩⟩ ⟨@K41_1 x3 h q⟩⟩
theorem p41_2 [q : Hid (V → H → Prop)] [g41_2 : Hid (V → V → V → V → V → H → Prop)] : den IP c41_2 (@Q41_2 q g41_2) = fun e h => @L41_2 (e 0) (e 3) (e 13) (e 14) (e 15) h q g41_2 := by
  refine Eq.trans (seq_eq (seq_eq (seq_eq (@p41_3 q g41_2) rfl) rfl) rfl) ?_
  kernel_rfl
def W41_2 (x0 x3 x13 x14 x15 : V) (h : H) [q : Hid (V → H → Prop)] : Prop := wFix (fun (g : V × V × V × V × V × Unit → H → Prop) (x : V × V × V × V × V × Unit) h => @L41_2 x.1 x.2.1 x.2.2.1 x.2.2.2.1 x.2.2.2.2.1 h q ⟨fun y0 y3 y13 y14 y15 h => g (y0, y3, y13, y14, y15, ()) h⟩) (x0, x3, x13, x14, x15, ()) h
theorem n41_2 [q : Hid (V → H → Prop)] : ∀ g : V × V × V × V × V × Unit → H → Prop, den IP c41_2 (Qx (fun e h => g ((fun e : E => ((e 0, e 3, e 13, e 14, e 15, ()) : V × V × V × V × V × Unit)) e) h) (@R41_2 q)) = fun e h => (fun (g : V × V × V × V × V × Unit → H → Prop) (x : V × V × V × V × V × Unit) h => @L41_2 x.1 x.2.1 x.2.2.1 x.2.2.2.1 x.2.2.2.2.1 h q ⟨fun y0 y3 y13 y14 y15 h => g (y0, y3, y13, y14, y15, ()) h⟩) g ((fun e : E => ((e 0, e 3, e 13, e 14, e 15, ()) : V × V × V × V × V × Unit)) e) h := fun g => @p41_2 q ⟨fun y0 y3 y13 y14 y15 h => g (y0, y3, y13, y14, y15, ()) h⟩
theorem w41_2 [q : Hid (V → H → Prop)] : den IP (.loop c41_2) (@R41_2 q) = fun e h => @W41_2 (e 0) (e 3) (e 13) (e 14) (e 15) h q := loop_eq (fun e : E => ((e 0, e 3, e 13, e 14, e 15, ()) : V × V × V × V × V × Unit)) (fun (g : V × V × V × V × V × Unit → H → Prop) (x : V × V × V × V × V × Unit) h => @L41_2 x.1 x.2.1 x.2.2.1 x.2.2.2.1 x.2.2.2.2.1 h q ⟨fun y0 y3 y13 y14 y15 h => g (y0, y3, y13, y14, y15, ()) h⟩) (@n41_2 q)
theorem m41_2 [q : Hid (V → H → Prop)] : Mono (fun (g : V × V × V × V × V × Unit → H → Prop) (x : V × V × V × V × V × Unit) h => @L41_2 x.1 x.2.1 x.2.2.1 x.2.2.2.1 x.2.2.2.2.1 h q ⟨fun y0 y3 y13 y14 y15 h => g (y0, y3, y13, y14, y15, ()) h⟩) := mono_of (p := (fun e : E => ((e 0, e 3, e 13, e 14, e 15, ()) : V × V × V × V × V × Unit))) (fun x : V × V × V × V × V × Unit => upd (upd (upd (upd (upd (fun _ => undefV) 15 (x.2.2.2.2.1)) 14 (x.2.2.2.1)) 13 (x.2.2.1)) 3 (x.2.1)) 0 (x.1)) (fun _ => rfl) (@n41_2 q)
theorem W41_2_inv {q : Hid (V → H → Prop)} (I : Nat → V → V → V → V → V → H → Prop) (step : ∀ n x0 x3 x13 x14 x15 h, I n x0 x3 x13 x14 x15 h → @L41_2 x0 x3 x13 x14 x15 h q ⟨fun y0 y3 y13 y14 y15 h => ∃ m, m < n ∧ I m y0 y3 y13 y14 y15 h⟩) (n : Nat) (x0 x3 x13 x14 x15 : V) (h : H) (hi : I n x0 x3 x13 x14 x15 h) : @W41_2 x0 x3 x13 x14 x15 h q :=
  wFix_inv (@m41_2 q) (fun n x h => I n x.1 x.2.1 x.2.2.1 x.2.2.2.1 x.2.2.2.2.1 h) (fun n x h hi => step n x.1 x.2.1 x.2.2.1 x.2.2.2.1 x.2.2.2.2.1 h hi) n (x0, x3, x13, x14, x15, ()) h hi
theorem W41_2_eq (x0 x3 x13 x14 x15 : V) (h : H) {q : Hid (V → H → Prop)} : @W41_2 x0 x3 x13 x14 x15 h q ↔ @L41_2 x0 x3 x13 x14 x15 h q ⟨fun y0 y3 y13 y14 y15 h => @W41_2 y0 y3 y13 y14 y15 h q⟩ := wFix_unroll (@m41_2 q) (x0, x3, x13, x14, x15, ()) h
def K41 (x0 : V) (h : H) [q : Hid (V → H → Prop)] : Prop := @Bnd V (vEqz false .p x0 (.p none)) ⟨fun v1 => @Sel v1 ⟨@Hid.un (V → H → Prop) q (.i .i64 0) h⟩ ⟨@Bnd V (vNilc x0) ⟨fun v2 => @Bnd V (vFa 29 v2) ⟨fun v3 => @Bnd V (vLd1 h v3) ⟨fun v4 => @wF IP 89 [v4] h ⟨fun v5 h6 => @Bnd V (vLens v5) ⟨fun v7 => @W41_2 x0 (.i .i64 0) v5 v7 (.i .i64 0) h6 q⟩⟩⟩⟩⟩⟩⟩
theorem p41 [q : Hid (V → H → Prop)] : den IP c41 (@Q41 q) = fun e h => @K41 (e 0) h q := by
  refine Eq.trans (seq_eq (seq_eq (seq_eq (seq_eq (@p41_1 q) (seq_eq (block_eq (@w41_2 q)) rfl)) rfl) rfl) rfl) ?_
  kernel_rfl
theorem f41 (a0 : V) (h : H) (Q : V → H → Prop) : @wF IP 41 [a0] h ⟨Q⟩ ↔ @K41 a0 h ⟨Q⟩ := (Fnc_den (ip41) (by kernel_rfl) (by kernel_rfl) h Q).trans (iff_of_eq (congrFun (congrFun (@p41 ⟨Q⟩) _) h))
def rQ41 (C : Nat → List V → H → Rr) (k : Nat) : X → E → H → Rr := Qrr rs41
def rQ41_1 (C : Nat → List V → H → Rr) (k : Nat) : X → E → H → Rr := (rQ41 C k)
def rK41_1 (C : Nat → List V → H → Rr) (k : Nat) (x3 : V) (h : H) : Rr := (some (x3, h))
def rJ41_1 (C : Nat → List V → H → Rr) (k : Nat) : E → H → Rr := fun e h => (rK41_1 C k (e 3) h)
theorem rp41_1 (C : Nat → List V → H → Rr) (k : Nat) : dn C k c41_1 (rQ41_1 C k) = (rJ41_1 C k) := by kernel_rfl
def rR41_2 (C : Nat → List V → H → Rr) (k : Nat) : X → E → H → Rr := (Qbr 0 (Qxr (rJ41_1 C k) (rQ41 C k)))
def rQ41_2 (C : Nat → List V → H → Rr) (k : Nat) (g41_2 : V → V → V → V → V → H → Rr) : X → E → H → Rr := Qxr (fun e h => g41_2 (e 0) (e 3) (e 13) (e 14) (e 15) h) (rR41_2 C k)
def rQ41_3 (C : Nat → List V → H → Rr) (k : Nat) (g41_2 : V → V → V → V → V → H → Rr) : X → E → H → Rr := (rQ41_2 C k g41_2)
def rK41_3 (C : Nat → List V → H → Rr) (k : Nat) (g41_2 : V → V → V → V → V → H → Rr) (x0 x3 x13 x14 x15 : V) (h : H) : Rr := (rB (bin .add x15 (.i .i64 1)) fun v1 => (g41_2 x0 x3 x13 x14 v1 h))
def rJ41_3 (C : Nat → List V → H → Rr) (k : Nat) (g41_2 : V → V → V → V → V → H → Rr) : E → H → Rr := fun e h => (rK41_3 C k g41_2 (e 0) (e 3) (e 13) (e 14) (e 15) h)
theorem rp41_3 (C : Nat → List V → H → Rr) (k : Nat) (g41_2 : V → V → V → V → V → H → Rr) : dn C k c41_3 (rQ41_3 C k g41_2) = (rJ41_3 C k g41_2) := by kernel_rfl
def rL41_2 (C : Nat → List V → H → Rr) (k : Nat) (g41_2 : V → V → V → V → V → H → Rr) (x0 x3 x13 x14 x15 : V) (h : H) : Rr := (rB (bin .lss x15 x14) fun v1 => (rS v1 (rB (vIa 1 x13 x15) fun v2 => (rB (vLd1 h v2) fun v3 => (rB (vNilc x0) fun v4 => (rB (vFa 29 v4) fun v5 => (rB (vLd1 h v5) fun v6 => (rK (C 90 [v6, v3] h) fun v7 h8 => (rB (vNilc v7) fun v9 => (rB (vFa 12 v9) fun v10 => (rB (vLd1 h8 v10) fun v11 => (rB (bin .eql v11 (.i .i64 0)) fun v12 => (rS v12 (rB (bin .add x3 (.i .i64 1)) fun v13 => (rK41_3 C k g41_2 x0 v13 x13 x14 x15 h8)) (rK41_3 C k g41_2 x0 x3 x13 x14 x15 h8)))))))))))) (rK41_1 C k x3 h)))
theorem rp41_2 (C : Nat → List V → H → Rr) (k : Nat) (g41_2 : V → V → V → V → V → H → Rr) : dn C k c41_2 (rQ41_2 C k g41_2) = fun e h => (rL41_2 C k g41_2 (e 0) (e 3) (e 13) (e 14) (e 15) h) := by
  refine Eq.trans (rseq_eq (rseq_eq (rseq_eq (rp41_3 C k g41_2) rfl) rfl) rfl) ?_
  kernel_rfl
def rW41_2 (C : Nat → List V → H → Rr) (k : Nat) (x0 x3 x13 x14 x15 : V) (h : H) : Rr := rFix k (fun (g : V × V × V × V × V × Unit → H → Rr) (x : V × V × V × V × V × Unit) h => rL41_2 C k (fun y0 y3 y13 y14 y15 h => g (y0, y3, y13, y14, y15, ()) h) x.1 x.2.1 x.2.2.1 x.2.2.2.1 x.2.2.2.2.1 h) (x0, x3, x13, x14, x15, ()) h
theorem rn41_2 (C : Nat → List V → H → Rr) (k : Nat) : ∀ g : V × V × V × V × V × Unit → H → Rr, dn C k c41_2 (Qxr (fun e h => g ((fun e : E => ((e 0, e 3, e 13, e 14, e 15, ()) : V × V × V × V × V × Unit)) e) h) (rR41_2 C k)) = fun e h => (fun (g : V × V × V × V × V × Unit → H → Rr) (x : V × V × V × V × V × Unit) h => rL41_2 C k (fun y0 y3 y13 y14 y15 h => g (y0, y3, y13, y14, y15, ()) h) x.1 x.2.1 x.2.2.1 x.2.2.2.1 x.2.2.2.2.1 h) g ((fun e : E => ((e 0, e 3, e 13, e 14, e 15, ()) : V × V × V × V × V × Unit)) e) h := fun g => rp41_2 C k (fun y0 y3 y13 y14 y15 h => g (y0, y3, y13, y14, y15, ()) h)
theorem rw41_2 (C : Nat → List V → H → Rr) (k : Nat) : dn C k (.loop c41_2) (rR41_2 C k) = fun e h => (rW41_2 C k (e 0) (e 3) (e 13) (e 14) (e 15) h) := rloop_eq (fun e : E => ((e 0, e 3, e 13, e 14, e 15, ()) : V × V × V × V × V × Unit)) (fun (g : V × V × V × V × V × Unit → H → Rr) (x : V × V × V × V × V × Unit) h => rL41_2 C k (fun y0 y3 y13 y14 y15 h => g (y0, y3, y13, y14, y15, ()) h) x.1 x.2.1 x.2.2.1 x.2.2.2.1 x.2.2.2.2.1 h) (rn41_2 C k)
def rK41 (C : Nat → List V → H → Rr) (k : Nat) (x0 : V) (h : H) : Rr := (rB (vEqz false .p x0 (.p none)) fun v1 => (rS v1 (some ((.i .i64 0), h)) (rB (vNilc x0) fun v2 => (rB (vFa 29 v2) fun v3 => (rB (vLd1 h v3) fun v4 => (rK (C 89 [v4] h) fun v5 h6 => (rB (vLens v5) fun v7 => (rW41_2 C k x0 (.i .i64 0) v5 v7 (.i .i64 0) h6))))))))
theorem rp41 (C : Nat → List V → H → Rr) (k : Nat) : dn C k c41 (rQ41 C k) = fun e h => (rK41 C k (e 0) h) := by
  refine Eq.trans (rseq_eq (rseq_eq (rseq_eq (rseq_eq (rp41_1 C k) (rseq_eq (rblock_eq (rw41_2 C k)) rfl)) rfl) rfl) rfl) ?_
  kernel_rfl
def F41 : RF := fun C k a h => match a with
  | [a0] => rK41 C k a0 h
  | _ => none
theorem ro41 : RunOK IP 41 F41 := ⟨ir41, ip41, by kernel_rfl, fun C k a h r e => by
  unfold F41 at e
  split at e
  · exact ⟨by kernel_rfl, (congrFun (congrFun (rp41 C k) _) h).trans e⟩
  · cases e⟩
theorem ip42 : IP 42 = some ir42 := rfl
def Q42 [q : Hid (V → H → Prop)] : X → E → H → Prop := Qr rs42 q.un
def K42 (x0 : V) (h : H) [q : Hid (V → H → Prop)] : Prop := @Bnd V (vEqz false .p x0 (.p none)) ⟨fun v1 => @Sel v1 ⟨@Hid.un (V → H → Prop) q (.p none) h⟩ ⟨@Bnd V (vNilc x0) ⟨fun v2 => @Bnd V (vFa 30 v2) ⟨fun v3 => @Bnd V (vLd1 h v3) ⟨fun v4 => @Hid.un (V → H → Prop) q v4 h⟩⟩⟩⟩⟩
theorem p42 [q : Hid (V → H → Prop)] : den IP c42 (@Q42 q) = fun e h => @K42 (e 0) h q := by kernel_rfl
theorem f42 (a0 : V) (h : H) (Q : V → H → Prop) : @wF IP 42 [a0] h ⟨Q⟩ ↔ @K42 a0 h ⟨Q⟩ := (Fnc_den (ip42) (by kernel_rfl) (by kernel_rfl) h Q).trans (iff_of_eq (congrFun (congrFun (@p42 ⟨Q⟩) _) h))
theorem ip44 : IP 44 = some ir44 := rfl
def Q44 [q : Hid (V → H → Prop)] : X → E → H → Prop := Qr rs44 q.un
def K44 (x0 : V) (h : H) [q : Hid (V → H → Prop)] : Prop := @Bnd V (vEqz false .p x0 (.p none)) ⟨fun v1 => @Sel v1 ⟨@Hid.un (V → H → Prop) q (.p none) h⟩ ⟨@Bnd V (vNilc x0) ⟨fun v2 => @Bnd V (vFa 28 v2) ⟨fun v3 => @Bnd V (vLd1 h v3) ⟨fun v4 => @Hid.un (V → H → Prop) q v4 h⟩⟩⟩⟩⟩
theorem p44 [q : Hid (V → H → Prop)] : den IP c44 (@Q44 q) = fun e h => @K44 (e 0) h q := by kernel_rfl
theorem f44 (a0 : V) (h : H) (Q : V → H → Prop) : @wF IP 44 [a0] h ⟨Q⟩ ↔ @K44 a0 h ⟨Q⟩ := (Fnc_den (ip44) (by kernel_rfl) (by kernel_rfl) h Q).trans (iff_of_eq (congrFun (congrFun (@p44 ⟨Q⟩) _) h))
theorem ip46 : IP 46 = some ir46 := rfl
def Q46 [q : Hid (V → H → Prop)] : X → E → H → Prop := Qr rs46 q.un
def S46_4 [q : Hid (V → H → Prop)] : E → H → Prop := ((Qx (den IP .ret (@Q46 q)) (@Q46 q)) X.normal)
def K46_4 (x5 x12 : V) (h : H) [q : Hid (V → H → Prop)] : Prop := @Bnd V (vPick x5 x12 (.b false)) ⟨fun v1 => @Hid.un (V → H → Prop) q v1 h⟩
def J46_4 [q : Hid (V → H → Prop)] : E → H → Prop := fun e h => @K46_4 (e 5) (e 12) h q
theorem p46_4 [q : Hid (V → H → Prop)] : denOps IP o46_1 (@S46_4 q) = (@J46_4 q) := by
  refine Eq.trans (app_eq rfl rfl) ?_
  kernel_rfl
def K46 (x0 : V) (h : H) [q : Hid (V → H → Prop)] : Prop := @Bnd (V × H) (vBox x0 h) ⟨fun r1 => @Bnd V (vLd1 r1.2 r1.1) ⟨fun v2 => @Bnd V (vEqz true .p v2 (.p none)) ⟨fun v3 => @Grd v3 true ⟨@Bnd V (vLd1 r1.2 r1.1) ⟨fun v4 => @Bnd V (vNilc v4) ⟨fun v5 => @Bnd V (vFa 29 v5) ⟨fun v6 => @Bnd V (vLd1 r1.2 v6) ⟨fun v7 => @wF IP 89 [v7] r1.2 ⟨fun v8 h9 => @Bnd V (some (.fn 93 [r1.1])) ⟨fun v10 => @wF IP 92 [v8, v10] h9 ⟨fun v11 h12 => @K46_4 v3 v11 h12 q⟩⟩⟩⟩⟩⟩⟩⟩ ⟨@K46_4 v3 undefV r1.2 q⟩⟩⟩⟩
theorem p46 [q : Hid (V → H → Prop)] : den IP c46 (@Q46 q) = fun e h => @K46 (e 0) h q := by
  refine Eq.trans (seq_eq (seq_eq rfl (region_eq (app_eq (grp_eq2 5 true rfl (@p46_4 q) rfl) rfl))) rfl) ?_
  kernel_rfl
theorem f46 (a0 : V) (h : H) (Q : V → H → Prop) : @wF IP 46 [a0] h ⟨Q⟩ ↔ @K46 a0 h ⟨Q⟩ := (Fnc_den (ip46) (by kernel_rfl) (by kernel_rfl) h Q).trans (iff_of_eq (congrFun (congrFun (@p46 ⟨Q⟩) _) h))
theorem ip49 : IP 49 = some ir49 := rfl
def Q49 [q : Hid (V → H → Prop)] : X → E → H → Prop := Qr rs49 q.un
def Q49_1 [q : Hid (V → H → Prop)] : X → E → H → Prop := (@Q49 q)
def K49_1 (x1 x2 x6 x8 x9 : V) (h : H) [q : Hid (V → H → Prop)] : Prop := @Bnd V (vIaa 2 4 x9 (.i .i64 0)) ⟨fun v1 => @Bnd V (vLdA h 2 v1) ⟨fun v2 => @Bnd (V × H) (vNewSl 1 [(.i .i64 0), (.i .i64 0)] [(0, 2, v2)] h) ⟨fun r3 => @Bnd V (vIaa 2 4 x9 (.i .i64 1)) ⟨fun v4 => @Bnd V (vLdA r3.2 2 v4) ⟨fun v5 => @Bnd (V × H) (vNewSl 1 [(.i .i64 0), (.i .i64 0)] [(0, 2, v5)] r3.2) ⟨fun r6 => @Bnd V (vIaa 2 4 x9 (.i .i64 2)) ⟨fun v7 => @Bnd V (vLdA r6.2 2 v7) ⟨fun v8 => @Bnd V (vIaa 2 4 x9 (.i .i64 3)) ⟨fun v9 => @Bnd V (vLdA r6.2 2 v9) ⟨fun v10 => @Bnd V (vBld [(.i .i64 0), (.i .i64 0), (.i .i64 0)] [(0, 1, x8), (1, 1, x1), (2, 1, x2)]) ⟨fun v11 => @Bnd V (vBld [.nsl, .nsl, (.i .i64 0), (.i .i64 0), (.i .i64 0), (.i .i64 0), (.i .i64 0), (.i .i64 0), (.i .i64 0)] [(0, 1, r3.1), (1, 1, r6.1), (2, 2, v8), (4, 2, v10), (6, 3, v11)]) ⟨fun v12 => @Bnd V (bin .add x8 x1) ⟨fun v13 => @Bnd (V × H) (vStore r6.2 9 x6 v12) ⟨fun r14 => @Bnd V (vLdA r14.2 9 x6) ⟨fun v15 => @Hid.un (V → H → Prop) q (.tup [v15, v13]) r14.2⟩⟩⟩⟩⟩⟩⟩⟩⟩⟩⟩⟩⟩⟩⟩
def J49_1 [q : Hid (V → H → Prop)] : E → H → Prop := fun e h => @K49_1 (e 1) (e 2) (e 6) (e 8) (e 9) h q
theorem p49_1 [q : Hid (V → H → Prop)] : den IP c49_1 (@Q49_1 q) = (@J49_1 q) := by kernel_rfl
def R49_2 [q : Hid (V → H → Prop)] : X → E → H → Prop := (Qb 0 (Qx (@J49_1 q) (@Q49 q)))
def Q49_2 [q : Hid (V → H → Prop)] [g49_2 : Hid (V → V → V → V → V → V → V → H → Prop)] : X → E → H → Prop := Qx (fun e h => g49_2.un (e 0) (e 1) (e 2) (e 6) (e 8) (e 9) (e 10) h) (@R49_2 q)
def L49_2 (x0 x1 x2 x6 x8 x9 x10 : V) (h : H) [q : Hid (V → H → Prop)] [g49_2 : Hid (V → V → V → V → V → V → V → H → Prop)] : Prop := @Bnd V (bin .lss x10 (.i .i64 4)) ⟨fun v1 => @Sel v1 ⟨@Bnd V (vBld [(.i .i64 0), (.i .i64 0)] [(0, 1, x8), (1, 1, x0)]) ⟨fun v2 => @Bnd V (vIaa 2 4 x9 x10) ⟨fun v3 => @Bnd (V × H) (vStore h 2 v3 v2) ⟨fun r4 => @Bnd V (bin .mul (.i .i64 4) x0) ⟨fun v5 => @Bnd V (bin .add (.i .i64 1) v5) ⟨fun v6 => @Bnd V (bin .add x8 v6) ⟨fun v7 => @Bnd V (bin .add x10 (.i .i64 1)) ⟨fun v8 => @Hid.un (V → V → V → V → V → V → V → H → Prop) g49_2 x0 x1 x2 x6 v7 x9 v8 r4.2⟩⟩⟩⟩⟩⟩⟩⟩ ⟨@K49_1 x1 x2 x6 x8 x9 h q⟩⟩
theorem p49_2 [q : Hid (V → H → Prop)] [g49_2 : Hid (V → V → V → V → V → V → V → H → Prop)] : den IP c49_2 (@Q49_2 q g49_2) = fun e h => @L49_2 (e 0) (e 1) (e 2) (e 6) (e 8) (e 9) (e 10) h q g49_2 := by kernel_rfl
def W49_2 (x0 x1 x2 x6 x8 x9 x10 : V) (h : H) [q : Hid (V → H → Prop)] : Prop := wFix (fun (g : V × V × V × V × V × V × V × Unit → H → Prop) (x : V × V × V × V × V × V × V × Unit) h => @L49_2 x.1 x.2.1 x.2.2.1 x.2.2.2.1 x.2.2.2.2.1 x.2.2.2.2.2.1 x.2.2.2.2.2.2.1 h q ⟨fun y0 y1 y2 y6 y8 y9 y10 h => g (y0, y1, y2, y6, y8, y9, y10, ()) h⟩) (x0, x1, x2, x6, x8, x9, x10, ()) h
theorem n49_2 [q : Hid (V → H → Prop)] : ∀ g : V × V × V × V × V × V × V × Unit → H → Prop, den IP c49_2 (Qx (fun e h => g ((fun e : E => ((e 0, e 1, e 2, e 6, e 8, e 9, e 10, ()) : V × V × V × V × V × V × V × Unit)) e) h) (@R49_2 q)) = fun e h => (fun (g : V × V × V × V × V × V × V × Unit → H → Prop) (x : V × V × V × V × V × V × V × Unit) h => @L49_2 x.1 x.2.1 x.2.2.1 x.2.2.2.1 x.2.2.2.2.1 x.2.2.2.2.2.1 x.2.2.2.2.2.2.1 h q ⟨fun y0 y1 y2 y6 y8 y9 y10 h => g (y0, y1, y2, y6, y8, y9, y10, ()) h⟩) g ((fun e : E => ((e 0, e 1, e 2, e 6, e 8, e 9, e 10, ()) : V × V × V × V × V × V × V × Unit)) e) h := fun g => @p49_2 q ⟨fun y0 y1 y2 y6 y8 y9 y10 h => g (y0, y1, y2, y6, y8, y9, y10, ()) h⟩
theorem w49_2 [q : Hid (V → H → Prop)] : den IP (.loop c49_2) (@R49_2 q) = fun e h => @W49_2 (e 0) (e 1) (e 2) (e 6) (e 8) (e 9) (e 10) h q := loop_eq (fun e : E => ((e 0, e 1, e 2, e 6, e 8, e 9, e 10, ()) : V × V × V × V × V × V × V × Unit)) (fun (g : V × V × V × V × V × V × V × Unit → H → Prop) (x : V × V × V × V × V × V × V × Unit) h => @L49_2 x.1 x.2.1 x.2.2.1 x.2.2.2.1 x.2.2.2.2.1 x.2.2.2.2.2.1 x.2.2.2.2.2.2.1 h q ⟨fun y0 y1 y2 y6 y8 y9 y10 h => g (y0, y1, y2, y6, y8, y9, y10, ()) h⟩) (@n49_2 q)
theorem m49_2 [q : Hid (V → H → Prop)] : Mono (fun (g : V × V × V × V × V × V × V × Unit → H → Prop) (x : V × V × V × V × V × V × V × Unit) h => @L49_2 x.1 x.2.1 x.2.2.1 x.2.2.2.1 x.2.2.2.2.1 x.2.2.2.2.2.1 x.2.2.2.2.2.2.1 h q ⟨fun y0 y1 y2 y6 y8 y9 y10 h => g (y0, y1, y2, y6, y8, y9, y10, ()) h⟩) := mono_of (p := (fun e : E => ((e 0, e 1, e 2, e 6, e 8, e 9, e 10, ()) : V × V × V × V × V × V × V × Unit))) (fun x : V × V × V × V × V × V × V × Unit => upd (upd (upd (upd (upd (upd (upd (fun _ => undefV) 10 (x.2.2.2.2.2.2.1)) 9 (x.2.2.2.2.2.1)) 8 (x.2.2.2.2.1)) 6 (x.2.2.2.1)) 2 (x.2.2.1)) 1 (x.2.1)) 0 (x.1)) (fun _ => rfl) (@n49_2 q)
theorem W49_2_inv {q : Hid (V → H → Prop)} (I : Nat → V → V → V → V → V → V → V → H → Prop) (step : ∀ n x0 x1 x2 x6 x8 x9 x10 h, I n x0 x1 x2 x6 x8 x9 x10 h → @L49_2 x0 x1 x2 x6 x8 x9 x10 h q ⟨fun y0 y1 y2 y6 y8 y9 y10 h => ∃ m, m < n ∧ I m y0 y1 y2 y6 y8 y9 y10 h⟩) (n : Nat) (x0 x1 x2 x6 x8 x9 x10 : V) (h : H) (hi : I n x0 x1 x2 x6 x8 x9 x10 h) : @W49_2 x0 x1 x2 x6 x8 x9 x10 h q :=
  wFix_inv (@m49_2 q) (fun n x h => I n x.1 x.2.1 x.2.2.1 x.2.2.2.1 x.2.2.2.2.1 x.2.2.2.2.2.1 x.2.2.2.2.2.2.1 h) (fun n x h hi => step n x.1 x.2.1 x.2.2.1 x.2.2.2.1 x.2.2.2.2.1 x.2.2.2.2.2.1 x.2.2.2.2.2.2.1 h hi) n (x0, x1, x2, x6, x8, x9, x10, ()) h hi
theorem W49_2_eq (x0 x1 x2 x6 x8 x9 x10 : V) (h : H) {q : Hid (V → H → Prop)} : @W49_2 x0 x1 x2 x6 x8 x9 x10 h q ↔ @L49_2 x0 x1 x2 x6 x8 x9 x10 h q ⟨fun y0 y1 y2 y6 y8 y9 y10 h => @W49_2 y0 y1 y2 y6 y8 y9 y10 h q⟩ := wFix_unroll (@m49_2 q) (x0, x1, x2, x6, x8, x9, x10, ()) h
def K49 (x0 x1 x2 : V) (h : H) [q : Hid (V → H → Prop)] : Prop := @Bnd (V × H) (some (.p (some (H.nx h, 0)), H.new h ⟨false, [.nsl, .nsl, (.i .i64 0), (.i .i64 0), (.i .i64 0), (.i .i64 0), (.i .i64 0), (.i .i64 0), (.i .i64 0)]⟩)) ⟨fun r1 => @Bnd V (vBld [(.i .i64 0), (.i .i64 0), (.i .i64 0), (.i .i64 0), (.i .i64 0), (.i .i64 0), (.i .i64 0), (.i .i64 0)] []) ⟨fun v2 => @Bnd (V × H) (some (.p (some (H.nx r1.2, 0)), H.new r1.2 ⟨false, [(.i .i64 0), (.i .i64 0), (.i .i64 0), (.i .i64 0), (.i .i64 0), (.i .i64 0), (.i .i64 0), (.i .i64 0)]⟩)) ⟨fun r3 => @Bnd (V × H) (vStore r3.2 8 r3.1 v2) ⟨fun r4 => @W49_2 x0 x1 x2 r1.1 (.i .i64 0) r3.1 (.i .i64 0) r4.2 q⟩⟩⟩⟩
theorem p49 [q : Hid (V → H → Prop)] : den IP c49 (@Q49 q) = fun e h => @K49 (e 0) (e 1) (e 2) h q := by
  refine Eq.trans (seq_eq (seq_eq (seq_eq (seq_eq (@p49_1 q) (seq_eq (block_eq (@w49_2 q)) rfl)) rfl) rfl) rfl) ?_
  kernel_rfl
theorem f49 (a0 a1 a2 : V) (h : H) (Q : V → H → Prop) : @wF IP 49 [a0, a1, a2] h ⟨Q⟩ ↔ @K49 a0 a1 a2 h ⟨Q⟩ := (Fnc_den (ip49) (by kernel_rfl) (by kernel_rfl) h Q).trans (iff_of_eq (congrFun (congrFun (@p49 ⟨Q⟩) _) h))
def rQ49 (C : Nat → List V → H → Rr) (k : Nat) : X → E → H → Rr := Qrr rs49
def rQ49_1 (C : Nat → List V → H → Rr) (k : Nat) : X → E → H → Rr := (rQ49 C k)
def rK49_1 (C : Nat → List V → H → Rr) (k : Nat) (x1 x2 x6 x8 x9 : V) (h : H) : Rr := (rB (vIaa 2 4 x9 (.i .i64 0)) fun v1 => (rB (vLdA h 2 v1) fun v2 => (rB (vNewSl 1 [(.i .i64 0), (.i .i64 0)] [(0, 2, v2)] h) fun r3 => (rB (vIaa 2 4 x9 (.i .i64 1)) fun v4 => (rB (vLdA r3.2 2 v4) fun v5 => (rB (vNewSl 1 [(.i .i64 0), (.i .i64 0)] [(0, 2, v5)] r3.2) fun r6 => (rB (vIaa 2 4 x9 (.i .i64 2)) fun v7 => (rB (vLdA r6.2 2 v7) fun v8 => (rB (vIaa 2 4 x9 (.i .i64 3)) fun v9 => (rB (vLdA r6.2 2 v9) fun v10 => (rB (vBld [(.i .i64 0), (.i .i64 0), (.i .i64 0)] [(0, 1, x8), (1, 1, x1), (2, 1, x2)]) fun v11 => (rB (vBld [.nsl, .nsl, (.i .i64 0), (.i .i64 0), (.i .i64 0), (.i .i64 0), (.i .i64 0), (.i .i64 0), (.i .i64 0)] [(0, 1, r3.1), (1, 1, r6.1), (2, 2, v8), (4, 2, v10), (6, 3, v11)]) fun v12 => (rB (bin .add x8 x1) fun v13 => (rB (vStore r6.2 9 x6 v12) fun r14 => (rB (vLdA r14.2 9 x6) fun v15 => (some ((.tup [v15, v13]), r14.2)))))))))))))))))
def rJ49_1 (C : Nat → List V → H → Rr) (k : Nat) : E → H → Rr := fun e h => (rK49_1 C k (e 1) (e 2) (e 6) (e 8) (e 9) h)
theorem rp49_1 (C : Nat → List V → H → Rr) (k : Nat) : dn C k c49_1 (rQ49_1 C k) = (rJ49_1 C k) := by kernel_rfl
def rR49_2 (C : Nat → List V → H → Rr) (k : Nat) : X → E → H → Rr := (Qbr 0 (Qxr (rJ49_1 C k) (rQ49 C k)))
def rQ49_2 (C : Nat → List V → H → Rr) (k : Nat) (g49_2 : V → V → V → V → V → V → V → H → Rr) : X → E → H → Rr := Qxr (fun e h => g49_2 (e 0) (e 1) (e 2) (e 6) (e 8) (e 9) (e 10) h) (rR49_2 C k)
def rL49_2 (C : Nat → List V → H → Rr) (k : Nat) (g49_2 : V → V → V → V → V → V → V → H → Rr) (x0 x1 x2 x6 x8 x9 x10 : V) (h : H) : Rr := (rB (bin .lss x10 (.i .i64 4)) fun v1 => (rS v1 (rB (vBld [(.i .i64 0), (.i .i64 0)] [(0, 1, x8), (1, 1, x0)]) fun v2 => (rB (vIaa 2 4 x9 x10) fun v3 => (rB (vStore h 2 v3 v2) fun r4 => (rB (bin .mul (.i .i64 4) x0) fun v5 => (rB (bin .add (.i .i64 1) v5) fun v6 => (rB (bin .add x8 v6) fun v7 => (rB (bin .add x10 (.i .i64 1)) fun v8 => (g49_2 x0 x1 x2 x6 v7 x9 v8 r4.2)))))))) (rK49_1 C k x1 x2 x6 x8 x9 h)))
theorem rp49_2 (C : Nat → List V → H → Rr) (k : Nat) (g49_2 : V → V → V → V → V → V → V → H → Rr) : dn C k c49_2 (rQ49_2 C k g49_2) = fun e h => (rL49_2 C k g49_2 (e 0) (e 1) (e 2) (e 6) (e 8) (e 9) (e 10) h) := by kernel_rfl
def rW49_2 (C : Nat → List V → H → Rr) (k : Nat) (x0 x1 x2 x6 x8 x9 x10 : V) (h : H) : Rr := rFix k (fun (g : V × V × V × V × V × V × V × Unit → H → Rr) (x : V × V × V × V × V × V × V × Unit) h => rL49_2 C k (fun y0 y1 y2 y6 y8 y9 y10 h => g (y0, y1, y2, y6, y8, y9, y10, ()) h) x.1 x.2.1 x.2.2.1 x.2.2.2.1 x.2.2.2.2.1 x.2.2.2.2.2.1 x.2.2.2.2.2.2.1 h) (x0, x1, x2, x6, x8, x9, x10, ()) h
theorem rn49_2 (C : Nat → List V → H → Rr) (k : Nat) : ∀ g : V × V × V × V × V × V × V × Unit → H → Rr, dn C k c49_2 (Qxr (fun e h => g ((fun e : E => ((e 0, e 1, e 2, e 6, e 8, e 9, e 10, ()) : V × V × V × V × V × V × V × Unit)) e) h) (rR49_2 C k)) = fun e h => (fun (g : V × V × V × V × V × V × V × Unit → H → Rr) (x : V × V × V × V × V × V × V × Unit) h => rL49_2 C k (fun y0 y1 y2 y6 y8 y9 y10 h => g (y0, y1, y2, y6, y8, y9, y10, ()) h) x.1 x.2.1 x.2.2.1 x.2.2.2.1 x.2.2.2.2.1 x.2.2.2.2.2.1 x.2.2.2.2.2.2.1 h) g ((fun e : E => ((e 0, e 1, e 2, e 6, e 8, e 9, e 10, ()) : V × V × V × V × V × V × V × Unit)) e) h := fun g => rp49_2 C k (fun y0 y1 y2 y6 y8 y9 y10 h => g (y0, y1, y2, y6, y8, y9, y10, ()) h)
theorem rw49_2 (C : Nat → List V → H → Rr) (k : Nat) : dn C k (.loop c49_2) (rR49_2 C k) = fun e h => (rW49_2 C k (e 0) (e 1) (e 2) (e 6) (e 8) (e 9) (e 10) h) := rloop_eq (fun e : E => ((e 0, e 1, e 2, e 6, e 8, e 9, e 10, ()) : V × V × V × V × V × V × V × Unit)) (fun (g : V × V × V × V × V × V × V × Unit → H → Rr) (x : V × V × V × V × V × V × V × Unit) h => rL49_2 C k (fun y0 y1 y2 y6 y8 y9 y10 h => g (y0, y1, y2, y6, y8, y9, y10, ()) h) x.1 x.2.1 x.2.2.1 x.2.2.2.1 x.2.2.2.2.1 x.2.2.2.2.2.1 x.2.2.2.2.2.2.1 h) (rn49_2 C k)
def rK49 (C : Nat → List V → H → Rr) (k : Nat) (x0 x1 x2 : V) (h : H) : Rr := (rB (some (.p (some (H.nx h, 0)), H.new h ⟨false, [.nsl, .nsl, (.i .i64 0), (.i .i64 0), (.i .i64 0), (.i .i64 0), (.i .i64 0), (.i .i64 0), (.i .i64 0)]⟩)) fun r1 => (rB (vBld [(.i .i64 0), (.i .i64 0), (.i .i64 0), (.i .i64 0), (.i .i64 0), (.i .i64 0), (.i .i64 0), (.i .i64 0)] []) fun v2 => (rB (some (.p (some (H.nx r1.2, 0)), H.new r1.2 ⟨false, [(.i .i64 0), (.i .i64 0), (.i .i64 0), (.i .i64 0), (.i .i64 0), (.i .i64 0), (.i .i64 0), (.i .i64 0)]⟩)) fun r3 => (rB (vStore r3.2 8 r3.1 v2) fun r4 => (rW49_2 C k x0 x1 x2 r1.1 (.i .i64 0) r3.1 (.i .i64 0) r4.2)))))
theorem rp49 (C : Nat → List V → H → Rr) (k : Nat) : dn C k c49 (rQ49 C k) = fun e h => (rK49 C k (e 0) (e 1) (e 2) h) := by
  refine Eq.trans (rseq_eq (rseq_eq (rseq_eq (rseq_eq (rp49_1 C k) (rseq_eq (rblock_eq (rw49_2 C k)) rfl)) rfl) rfl) rfl) ?_
  kernel_rfl
def F49 : RF := fun C k a h => match a with
  | [a0, a1, a2] => rK49 C k a0 a1 a2 h
  | _ => none
theorem ro49 : RunOK IP 49 F49 := ⟨ir49, ip49, by kernel_rfl, fun C k a h r e => by
  unfold F49 at e
  split at e
  · exact ⟨by kernel_rfl, (congrFun (congrFun (rp49 C k) _) h).trans e⟩
  · cases e⟩
theorem ip50 : IP 50 = some ir50 := rfl
def Q50 [q : Hid (V → H → Prop)] : X → E → H → Prop := Qr rs50 q.un
def Q50_1 [q : Hid (V → H → Prop)] : X → E → H → Prop := (@Q50 q)
def Q50_2 [q : Hid (V → H → Prop)] : X → E → H → Prop := (@Q50_1 q)
def K50_2 (x9 : V) (h : H) [q : Hid (V → H → Prop)] : Prop := @Hid.un (V → H → Prop) q x9 h
def J50_2 [q : Hid (V → H → Prop)] : E → H → Prop := fun e h => @K50_2 (e 9) h q
theorem p50_2 [q : Hid (V → H → Prop)] : den IP c50_2 (@Q50_2 q) = (@J50_2 q) := by kernel_rfl
def R50_3 [q : Hid (V → H → Prop)] : X → E → H → Prop := (Qb 0 (Qx (@J50_2 q) (@Q50_1 q)))
def Q50_3 [q : Hid (V → H → Prop)] [g50_3 : Hid (V → V → V → V → H → Prop)] : X → E → H → Prop := Qx (fun e h => g50_3.un (e 4) (e 9) (e 60) (e 61) h) (@R50_3 q)
def L50_3 (x4 x9 x60 x61 : V) (h : H) [q : Hid (V → H → Prop)] [g50_3 : Hid (V → V → V → V → H → Prop)] : Prop := @Bnd V (bin .lss x61 x60) ⟨fun v1 => @Sel v1 ⟨@Bnd V (vNilc x9) ⟨fun v2 => @Bnd V (vFa 31 v2) ⟨fun v3 => @Bnd V (vLd1 h v3) ⟨fun v4 => @Bnd V (vFa 12 x4) ⟨fun v5 => @Bnd V (vLdA h 6 v5) ⟨fun v6 => @wF IP 99 [v6] h ⟨fun v7 h8 => @Bnd (V × H) (vNewSl 1 [(.p none)] [(0, 1, v7)] h8) ⟨fun r9 => @Bnd (V × H) (vApp 1 8 v4 r9.1 r9.2) ⟨fun r10 => @Bnd V (vNilc x9) ⟨fun v11 => @Bnd V (vFa 31 v11) ⟨fun v12 => @Bnd (V × H) (vStore r10.2 1 v12 r10.1) ⟨fun r13 => @Chk (stdy false 1 v3 h h8) ⟨@Bnd V (bin .add x61 (.i .i64 1)) ⟨fun v14 => @Hid.un (V → V → V → V → H → Prop) g50_3 x4 x9 x60 v14 r13.2⟩⟩⟩⟩⟩⟩⟩⟩⟩⟩⟩⟩⟩⟩ ⟨@K50_2 x9 h q⟩⟩
theorem p50_3 [q : Hid (V → H → Prop)] [g50_3 : Hid (V → V → V → V → H → Prop)] : den IP c50_3 (@Q50_3 q g50_3) = fun e h => @L50_3 (e 4) (e 9) (e 60) (e 61) h q g50_3 := by kernel_rfl
def W50_3 (x4 x9 x60 x61 : V) (h : H) [q : Hid (V → H → Prop)] : Prop := wFix (fun (g : V × V × V × V × Unit → H → Prop) (x : V × V × V × V × Unit) h => @L50_3 x.1 x.2.1 x.2.2.1 x.2.2.2.1 h q ⟨fun y4 y9 y60 y61 h => g (y4, y9, y60, y61, ()) h⟩) (x4, x9, x60, x61, ()) h
theorem n50_3 [q : Hid (V → H → Prop)] : ∀ g : V × V × V × V × Unit → H → Prop, den IP c50_3 (Qx (fun e h => g ((fun e : E => ((e 4, e 9, e 60, e 61, ()) : V × V × V × V × Unit)) e) h) (@R50_3 q)) = fun e h => (fun (g : V × V × V × V × Unit → H → Prop) (x : V × V × V × V × Unit) h => @L50_3 x.1 x.2.1 x.2.2.1 x.2.2.2.1 h q ⟨fun y4 y9 y60 y61 h => g (y4, y9, y60, y61, ()) h⟩) g ((fun e : E => ((e 4, e 9, e 60, e 61, ()) : V × V × V × V × Unit)) e) h := fun g => @p50_3 q ⟨fun y4 y9 y60 y61 h => g (y4, y9, y60, y61, ()) h⟩
theorem w50_3 [q : Hid (V → H → Prop)] : den IP (.loop c50_3) (@R50_3 q) = fun e h => @W50_3 (e 4) (e 9) (e 60) (e 61) h q := loop_eq (fun e : E => ((e 4, e 9, e 60, e 61, ()) : V × V × V × V × Unit)) (fun (g : V × V × V × V × Unit → H → Prop) (x : V × V × V × V × Unit) h => @L50_3 x.1 x.2.1 x.2.2.1 x.2.2.2.1 h q ⟨fun y4 y9 y60 y61 h => g (y4, y9, y60, y61, ()) h⟩) (@n50_3 q)
theorem m50_3 [q : Hid (V → H → Prop)] : Mono (fun (g : V × V × V × V × Unit → H → Prop) (x : V × V × V × V × Unit) h => @L50_3 x.1 x.2.1 x.2.2.1 x.2.2.2.1 h q ⟨fun y4 y9 y60 y61 h => g (y4, y9, y60, y61, ()) h⟩) := mono_of (p := (fun e : E => ((e 4, e 9, e 60, e 61, ()) : V × V × V × V × Unit))) (fun x : V × V × V × V × Unit => upd (upd (upd (upd (fun _ => undefV) 61 (x.2.2.2.1)) 60 (x.2.2.1)) 9 (x.2.1)) 4 (x.1)) (fun _ => rfl) (@n50_3 q)
theorem W50_3_inv {q : Hid (V → H → Prop)} (I : Nat → V → V → V → V → H → Prop) (step : ∀ n x4 x9 x60 x61 h, I n x4 x9 x60 x61 h → @L50_3 x4 x9 x60 x61 h q ⟨fun y4 y9 y60 y61 h => ∃ m, m < n ∧ I m y4 y9 y60 y61 h⟩) (n : Nat) (x4 x9 x60 x61 : V) (h : H) (hi : I n x4 x9 x60 x61 h) : @W50_3 x4 x9 x60 x61 h q :=
  wFix_inv (@m50_3 q) (fun n x h => I n x.1 x.2.1 x.2.2.1 x.2.2.2.1 h) (fun n x h hi => step n x.1 x.2.1 x.2.2.1 x.2.2.2.1 h hi) n (x4, x9, x60, x61, ()) h hi
theorem W50_3_eq (x4 x9 x60 x61 : V) (h : H) {q : Hid (V → H → Prop)} : @W50_3 x4 x9 x60 x61 h q ↔ @L50_3 x4 x9 x60 x61 h q ⟨fun y4 y9 y60 y61 h => @W50_3 y4 y9 y60 y61 h q⟩ := wFix_unroll (@m50_3 q) (x4, x9, x60, x61, ()) h
def K50_1 (x0 x4 x5 x7 x8 : V) (h : H) [q : Hid (V → H → Prop)] : Prop := @Bnd V (vLdA h 18 x4) ⟨fun v1 => @Bnd V (vLdA h 9 x5) ⟨fun v2 => @Bnd V (vFa 0 x4) ⟨fun v3 => @Bnd V (vLd1 h v3) ⟨fun v4 => @wF IP 95 [v4] h ⟨fun v5 h6 => @Bnd V (vFa 1 x4) ⟨fun v7 => @Bnd V (vLd1 h6 v7) ⟨fun v8 => @Bnd V (vFa 2 x4) ⟨fun v9 => @Bnd V (vLd1 h6 v9) ⟨fun v10 => @wF IP 96 [v8, v10] h6 ⟨fun v11 h12 => @Bnd V (vFa 4 x4) ⟨fun v13 => @Bnd V (vLdA h12 6 v13) ⟨fun v14 => @wF IP 97 [v14] h12 ⟨fun v15 h16 => @wF IP 98 [x8] h16 ⟨fun v17 h18 => @Bnd V (vBld [(.i .i64 0), (.i .i64 0), (.i .i64 0), (.i .i64 0), (.i .i64 0), (.i .i64 0), (.i .i64 0), (.i .i64 0), (.i .i64 0), (.i .i64 0), (.i .i64 0), (.i .i64 0), (.i .i64 0), (.i .i64 0), (.i .i64 0), (.i .i64 0), (.i .i64 0), (.i .i64 0), (.i .i64 0), .nsl, .nsl, (.i .i64 0), (.i .i64 0), (.i .i64 0), (.i .i64 0), (.i .i64 0), (.i .i64 0), (.i .i64 0), (.p none), (.p none), (.p none), .nsl, (.p none), (.p none), (.i .u32 0), (.i .i64 0), (.i .i64 0), (.i .i64 0), (.i .i64 0), (.i .u32 0), (.b false), (.i .i64 0), (.i .u32 0), (.i .i64 0), (.i .u64 0), (.p none), (.i .i64 0), (.i .i64 0), (.i .u64 0), (.i .u64 0), (.i .u64 0), (.i .u64 0), (.i .i64 0), (.b false), (.b false), (.i .i64 0), (.i .i64 0), (.i .i64 0), (.i .i64 0), (.i .u64 0), (.i .i64 0), (.i .i64 0), (.i .u64 0), (.i .u64 0), (.i .u64 0), (.i .u64 0), (.i .u64 0), (.i .i64 0), (.i .i64 0), (.i .u64 0), (.i .u64 0), (.i .u64 0), (.i .u64 0), (.i .i64 0), (.b false), (.i .i64 0), (.i .i64 0), (.i .u64 0), (.i .u64 0), (.i .u64 0), (.i .u64 0), (.i .i64 0), (.b false), (.b false), (.i .i64 0), (.i .i64 0), (.i .i64 0), (.i .i64 0), (.i .i64 0), (.i .u32 0), (.i .i64 0), (.b false), (.b false), (.i .i64 0), (.i .u32 0), (.i .i64 0), (.i .i64 0), (.i .i64 0), (.i .i64 0), (.i .u64 0), (.p none), (.i .i64 0), (.i .u32 0), .nsl] [(0, 1, x0), (1, 18, v1), (19, 9, v2), (28, 1, x7), (29, 1, v5), (30, 1, v11), (32, 1, v15), (33, 1, v17)]) ⟨fun v19 => @Bnd (V × H) (vBox v19 h18) ⟨fun r20 => @Chk (stdy true 18 x4 h h6) ⟨@Chk (stdy true 18 x4 h6 h12) ⟨@Chk (stdy true 18 x4 h12 h16) ⟨@Chk (stdy true 18 x4 h16 h18) ⟨@Chk (stdy true 9 x5 h h6) ⟨@Chk (stdy true 9 x5 h6 h12) ⟨@Chk (stdy true 9 x5 h12 h16) ⟨@Chk (stdy true 9 x5 h16 h18) ⟨@Chk (stdy false 1 v7 h h6) ⟨@Chk (stdy false 1 v9 h h6) ⟨@Chk (stdy true 6 v13 h h6) ⟨@Chk (stdy true 6 v13 h6 h12) ⟨@W50_3 x4 r20.1 x8 (.i .i64 0) r20.2 q⟩⟩⟩⟩⟩⟩⟩⟩⟩⟩⟩⟩⟩⟩⟩⟩⟩⟩⟩⟩⟩⟩⟩⟩⟩⟩⟩⟩
def J50_1 [q : Hid (V → H → Prop)] : E → H → Prop := fun e h => @K50_1 (e 0) (e 4) (e 5) (e 7) (e 8) h q
theorem p50_1 [q : Hid (V → H → Prop)] : den IP c50_1 (@Q50_1 q) = (@J50_1 q) := by
  refine Eq.trans (seq_eq (seq_eq (@p50_2 q) (seq_eq (block_eq (@w50_3 q)) rfl)) rfl) ?_
  kernel_rfl
def Q50_4 [q : Hid (V → H → Prop)] : X → E → H → Prop := (Qx (@J50_1 q) (@Q50 q))
def K50_4 (x0 x4 x5 x7 x8 x40 : V) (h : H) [q : Hid (V → H → Prop)] : Prop := @Sel x40 ⟨@Hid.un (V → H → Prop) q (.p none) h⟩ ⟨@K50_1 x0 x4 x5 x7 x8 h q⟩
def J50_4 [q : Hid (V → H → Prop)] : E → H → Prop := fun e h => @K50_4 (e 0) (e 4) (e 5) (e 7) (e 8) (e 40) h q
theorem p50_4 [q : Hid (V → H → Prop)] : den IP c50_4 (@Q50_4 q) = (@J50_4 q) := by kernel_rfl
def S50_16 [q : Hid (V → H → Prop)] : E → H → Prop := ((Qx (@J50_4 q) (Qx (@J50_1 q) (@Q50 q))) X.normal)
def K50_16 (x0 x4 x5 x7 x8 x34 x39 : V) (h : H) [q : Hid (V → H → Prop)] : Prop := @Bnd V (vPick x34 (.b true) x39) ⟨fun v1 => @K50_4 x0 x4 x5 x7 x8 v1 h q⟩
def J50_16 [q : Hid (V → H → Prop)] : E → H → Prop := fun e h => @K50_16 (e 0) (e 4) (e 5) (e 7) (e 8) (e 34) (e 39) h q
theorem p50_16 [q : Hid (V → H → Prop)] : denOps IP o50_5 (@S50_16 q) = (@J50_16 q) := by
  refine Eq.trans (app_eq rfl rfl) ?_
  kernel_rfl
def S50_17 [q : Hid (V → H → Prop)] : E → H → Prop := ((Qx (@J50_4 q) (Qx (@J50_1 q) (@Q50 q))) X.normal)
def K50_17 (x0 x4 x5 x7 x8 x30 x32 : V) (h : H) [q : Hid (V → H → Prop)] : Prop := @Bnd V (vPick x30 (.b true) x32) ⟨fun v1 => @Grd v1 false ⟨@Bnd V (vFa 1 x5) ⟨fun v2 => @Bnd V (vLd1 h v2) ⟨fun v3 => @Bnd V (vLens v3) ⟨fun v4 => @Bnd V (bin .neq v4 x8) ⟨fun v5 => @K50_16 x0 x4 x5 x7 x8 v1 v5 h q⟩⟩⟩⟩⟩ ⟨@K50_16 x0 x4 x5 x7 x8 v1 undefV h q⟩⟩
def J50_17 [q : Hid (V → H → Prop)] : E → H → Prop := fun e h => @K50_17 (e 0) (e 4) (e 5) (e 7) (e 8) (e 30) (e 32) h q
theorem p50_17 [q : Hid (V → H → Prop)] : denOps IP o50_7 (@S50_17 q) = (@J50_17 q) := by
  refine Eq.trans (app_eq (grp_eq2 34 false rfl (@p50_16 q) rfl) rfl) ?_
  kernel_rfl
def S50_18 [q : Hid (V → H → Prop)] : E → H → Prop := ((Qx (@J50_4 q) (Qx (@J50_1 q) (@Q50 q))) X.normal)
def K50_18 (x0 x4 x5 x7 x8 x26 x28 : V) (h : H) [q : Hid (V → H → Prop)] : Prop := @Bnd V (vPick x26 (.b true) x28) ⟨fun v1 => @Grd v1 false ⟨@Bnd V (bin .gtr x8 (.i .i64 4)) ⟨fun v2 => @K50_17 x0 x4 x5 x7 x8 v1 v2 h q⟩⟩ ⟨@K50_17 x0 x4 x5 x7 x8 v1 undefV h q⟩⟩
def J50_18 [q : Hid (V → H → Prop)] : E → H → Prop := fun e h => @K50_18 (e 0) (e 4) (e 5) (e 7) (e 8) (e 26) (e 28) h q
theorem p50_18 [q : Hid (V → H → Prop)] : denOps IP o50_9 (@S50_18 q) = (@J50_18 q) := by
  refine Eq.trans (app_eq (grp_eq2 30 false rfl (@p50_17 q) rfl) rfl) ?_
  kernel_rfl
def S50_19 [q : Hid (V → H → Prop)] : E → H → Prop := ((Qx (@J50_4 q) (Qx (@J50_1 q) (@Q50 q))) X.normal)
def K50_19 (x0 x4 x5 x7 x8 x22 x24 : V) (h : H) [q : Hid (V → H → Prop)] : Prop := @Bnd V (vPick x22 (.b true) x24) ⟨fun v1 => @Grd v1 false ⟨@Bnd V (bin .lss x8 (.i .i64 1)) ⟨fun v2 => @K50_18 x0 x4 x5 x7 x8 v1 v2 h q⟩⟩ ⟨@K50_18 x0 x4 x5 x7 x8 v1 undefV h q⟩⟩
def J50_19 [q : Hid (V → H → Prop)] : E → H → Prop := fun e h => @K50_19 (e 0) (e 4) (e 5) (e 7) (e 8) (e 22) (e 24) h q
theorem p50_19 [q : Hid (V → H → Prop)] : denOps IP o50_11 (@S50_19 q) = (@J50_19 q) := by
  refine Eq.trans (app_eq (grp_eq2 26 false rfl (@p50_18 q) rfl) rfl) ?_
  kernel_rfl
def S50_20 [q : Hid (V → H → Prop)] : E → H → Prop := ((Qx (@J50_4 q) (Qx (@J50_1 q) (@Q50 q))) X.normal)
def K50_20 (x0 x4 x5 x7 x8 x18 x20 : V) (h : H) [q : Hid (V → H → Prop)] : Prop := @Bnd V (vPick x18 (.b true) x20) ⟨fun v1 => @Grd v1 false ⟨@Bnd V (vEqz false .p x7 (.p none)) ⟨fun v2 => @K50_19 x0 x4 x5 x7 x8 v1 v2 h q⟩⟩ ⟨@K50_19 x0 x4 x5 x7 x8 v1 undefV h q⟩⟩
def J50_20 [q : Hid (V → H → Prop)] : E → H → Prop := fun e h => @K50_20 (e 0) (e 4) (e 5) (e 7) (e 8) (e 18) (e 20) h q
theorem p50_20 [q : Hid (V → H → Prop)] : denOps IP o50_13 (@S50_20 q) = (@J50_20 q) := by
  refine Eq.trans (app_eq (grp_eq2 22 false rfl (@p50_19 q) rfl) rfl) ?_
  kernel_rfl
def K50 (x0 x1 x2 : V) (h : H) [q : Hid (V → H → Prop)] : Prop := @Bnd (V × H) (vBox x1 h) ⟨fun r1 => @Bnd (V × H) (vBox x2 r1.2) ⟨fun r2 => @Bnd V (vFa 6 r2.1) ⟨fun v3 => @Bnd V (vLdA r2.2 3 v3) ⟨fun v4 => @wF IP 94 [v4] r2.2 ⟨fun v5 h6 => @Bnd V (vFa 0 r2.1) ⟨fun v7 => @Bnd V (vLd1 h6 v7) ⟨fun v8 => @Bnd V (vLens v8) ⟨fun v9 => @Bnd V (bin .lss x0 (.i .i64 0)) ⟨fun v10 => @Grd v10 false ⟨@Bnd V (bin .geq x0 (.i .i64 4)) ⟨fun v11 => @K50_20 x0 r1.1 r2.1 v5 v9 v10 v11 h6 q⟩⟩ ⟨@K50_20 x0 r1.1 r2.1 v5 v9 v10 undefV h6 q⟩⟩⟩⟩⟩⟩⟩⟩⟩⟩
theorem p50 [q : Hid (V → H → Prop)] : den IP c50 (@Q50 q) = fun e h => @K50 (e 0) (e 1) (e 2) h q := by
  refine Eq.trans (seq_eq (seq_eq (seq_eq (seq_eq (@p50_1 q) (seq_eq (@p50_4 q) (region_eq (app_eq (grp_eq2 18 false rfl (@p50_20 q) rfl) rfl)))) rfl) rfl) rfl) ?_
  kernel_rfl
theorem f50 (a0 a1 a2 : V) (h : H) (Q : V → H → Prop) : @wF IP 50 [a0, a1, a2] h ⟨Q⟩ ↔ @K50 a0 a1 a2 h ⟨Q⟩ := (Fnc_den (ip50) (by kernel_rfl) (by kernel_rfl) h Q).trans (iff_of_eq (congrFun (congrFun (@p50 ⟨Q⟩) _) h))
def rQ50 (C : Nat → List V → H → Rr) (k : Nat) : X → E → H → Rr := Qrr rs50
def rQ50_1 (C : Nat → List V → H → Rr) (k : Nat) : X → E → H → Rr := (rQ50 C k)
def rQ50_2 (C : Nat → List V → H → Rr) (k : Nat) : X → E → H → Rr := (rQ50_1 C k)
def rK50_2 (C : Nat → List V → H → Rr) (k : Nat) (x9 : V) (h : H) : Rr := (some (x9, h))
def rJ50_2 (C : Nat → List V → H → Rr) (k : Nat) : E → H → Rr := fun e h => (rK50_2 C k (e 9) h)
theorem rp50_2 (C : Nat → List V → H → Rr) (k : Nat) : dn C k c50_2 (rQ50_2 C k) = (rJ50_2 C k) := by kernel_rfl
def rR50_3 (C : Nat → List V → H → Rr) (k : Nat) : X → E → H → Rr := (Qbr 0 (Qxr (rJ50_2 C k) (rQ50_1 C k)))
def rQ50_3 (C : Nat → List V → H → Rr) (k : Nat) (g50_3 : V → V → V → V → H → Rr) : X → E → H → Rr := Qxr (fun e h => g50_3 (e 4) (e 9) (e 60) (e 61) h) (rR50_3 C k)
def rL50_3 (C : Nat → List V → H → Rr) (k : Nat) (g50_3 : V → V → V → V → H → Rr) (x4 x9 x60 x61 : V) (h : H) : Rr := (rB (bin .lss x61 x60) fun v1 => (rS v1 (rB (vNilc x9) fun v2 => (rB (vFa 31 v2) fun v3 => (rB (vLd1 h v3) fun v4 => (rB (vFa 12 x4) fun v5 => (rB (vLdA h 6 v5) fun v6 => (rK (C 99 [v6] h) fun v7 h8 => (rB (vNewSl 1 [(.p none)] [(0, 1, v7)] h8) fun r9 => (rB (vApp 1 8 v4 r9.1 r9.2) fun r10 => (rB (vNilc x9) fun v11 => (rB (vFa 31 v11) fun v12 => (rB (vStore r10.2 1 v12 r10.1) fun r13 => (rC (stdy false 1 v3 h h8) (rB (bin .add x61 (.i .i64 1)) fun v14 => (g50_3 x4 x9 x60 v14 r13.2)))))))))))))) (rK50_2 C k x9 h)))
theorem rp50_3 (C : Nat → List V → H → Rr) (k : Nat) (g50_3 : V → V → V → V → H → Rr) : dn C k c50_3 (rQ50_3 C k g50_3) = fun e h => (rL50_3 C k g50_3 (e 4) (e 9) (e 60) (e 61) h) := by kernel_rfl
def rW50_3 (C : Nat → List V → H → Rr) (k : Nat) (x4 x9 x60 x61 : V) (h : H) : Rr := rFix k (fun (g : V × V × V × V × Unit → H → Rr) (x : V × V × V × V × Unit) h => rL50_3 C k (fun y4 y9 y60 y61 h => g (y4, y9, y60, y61, ()) h) x.1 x.2.1 x.2.2.1 x.2.2.2.1 h) (x4, x9, x60, x61, ()) h
theorem rn50_3 (C : Nat → List V → H → Rr) (k : Nat) : ∀ g : V × V × V × V × Unit → H → Rr, dn C k c50_3 (Qxr (fun e h => g ((fun e : E => ((e 4, e 9, e 60, e 61, ()) : V × V × V × V × Unit)) e) h) (rR50_3 C k)) = fun e h => (fun (g : V × V × V × V × Unit → H → Rr) (x : V × V × V × V × Unit) h => rL50_3 C k (fun y4 y9 y60 y61 h => g (y4, y9, y60, y61, ()) h) x.1 x.2.1 x.2.2.1 x.2.2.2.1 h) g ((fun e : E => ((e 4, e 9, e 60, e 61, ()) : V × V × V × V × Unit)) e) h := fun g => rp50_3 C k (fun y4 y9 y60 y61 h => g (y4, y9, y60, y61, ()) h)
theorem rw50_3 (C : Nat → List V → H → Rr) (k : Nat) : dn C k (.loop c50_3) (rR50_3 C k) = fun e h => (rW50_3 C k (e 4) (e 9) (e 60) (e 61) h) := rloop_eq (fun e : E => ((e 4, e 9, e 60, e 61, ()) : V × V × V × V × Unit)) (fun (g : V × V × V × V × Unit → H → Rr) (x : V × V × V × V × Unit) h => rL50_3 C k (fun y4 y9 y60 y61 h => g (y4, y9, y60, y61, ()) h) x.1 x.2.1 x.2.2.1 x.2.2.2.1 h) (rn50_3 C k)
def rK50_1 (C : Nat → List V → H → Rr) (k : Nat) (x0 x4 x5 x7 x8 : V) (h : H) : Rr := (rB (vLdA h 18 x4) fun v1 => (rB (vLdA h 9 x5) fun v2 => (rB (vFa 0 x4) fun v3 => (rB (vLd1 h v3) fun v4 => (rK (C 95 [v4] h) fun v5 h6 => (rB (vFa 1 x4) fun v7 => (rB (vLd1 h6 v7) fun v8 => (rB (vFa 2 x4) fun v9 => (rB (vLd1 h6 v9) fun v10 => (rK (C 96 [v8, v10] h6) fun v11 h12 => (rB (vFa 4 x4) fun v13 => (rB (vLdA h12 6 v13) fun v14 => (rK (C 97 [v14] h12) fun v15 h16 => (rK (C 98 [x8] h16) fun v17 h18 => (rB (vBld [(.i .i64 0), (.i .i64 0), (.i .i64 0), (.i .i64 0), (.i .i64 0), (.i .i64 0), (.i .i64 0), (.i .i64 0), (.i .i64 0), (.i .i64 0), (.i .i64 0), (.i .i64 0), (.i .i64 0), (.i .i64 0), (.i .i64 0), (.i .i64 0), (.i .i64 0), (.i .i64 0), (.i .i64 0), .nsl, .nsl, (.i .i64 0), (.i .i64 0), (.i .i64 0), (.i .i64 0), (.i .i64 0), (.i .i64 0), (.i .i64 0), (.p none), (.p none), (.p none), .nsl, (.p none), (.p none), (.i .u32 0), (.i .i64 0), (.i .i64 0), (.i .i64 0), (.i .i64 0), (.i .u32 0), (.b false), (.i .i64 0), (.i .u32 0), (.i .i64 0), (.i .u64 0), (.p none), (.i .i64 0), (.i .i64 0), (.i .u64 0), (.i .u64 0), (.i .u64 0), (.i .u64 0), (.i .i64 0), (.b false), (.b false), (.i .i64 0), (.i .i64 0), (.i .i64 0), (.i .i64 0), (.i .u64 0), (.i .i64 0), (.i .i64 0), (.i .u64 0), (.i .u64 0), (.i .u64 0), (.i .u64 0), (.i .u64 0), (.i .i64 0), (.i .i64 0), (.i .u64 0), (.i .u64 0), (.i .u64 0), (.i .u64 0), (.i .i64 0), (.b false), (.i .i64 0), (.i .i64 0), (.i .u64 0), (.i .u64 0), (.i .u64 0), (.i .u64 0), (.i .i64 0), (.b false), (.b false), (.i .i64 0), (.i .i64 0), (.i .i64 0), (.i .i64 0), (.i .i64 0), (.i .u32 0), (.i .i64 0), (.b false), (.b false), (.i .i64 0), (.i .u32 0), (.i .i64 0), (.i .i64 0), (.i .i64 0), (.i .i64 0), (.i .u64 0), (.p none), (.i .i64 0), (.i .u32 0), .nsl] [(0, 1, x0), (1, 18, v1), (19, 9, v2), (28, 1, x7), (29, 1, v5), (30, 1, v11), (32, 1, v15), (33, 1, v17)]) fun v19 => (rB (vBox v19 h18) fun r20 => (rC (stdy true 18 x4 h h6) (rC (stdy true 18 x4 h6 h12) (rC (stdy true 18 x4 h12 h16) (rC (stdy true 18 x4 h16 h18) (rC (stdy true 9 x5 h h6) (rC (stdy true 9 x5 h6 h12) (rC (stdy true 9 x5 h12 h16) (rC (stdy true 9 x5 h16 h18) (rC (stdy false 1 v7 h h6) (rC (stdy false 1 v9 h h6) (rC (stdy true 6 v13 h h6) (rC (stdy true 6 v13 h6 h12) (rW50_3 C k x4 r20.1 x8 (.i .i64 0) r20.2)))))))))))))))))))))))))))))
def rJ50_1 (C : Nat → List V → H → Rr) (k : Nat) : E → H → Rr := fun e h => (rK50_1 C k (e 0) (e 4) (e 5) (e 7) (e 8) h)
theorem rp50_1 (C : Nat → List V → H → Rr) (k : Nat) : dn C k c50_1 (rQ50_1 C k) = (rJ50_1 C k) := by
  refine Eq.trans (rseq_eq (rseq_eq (rp50_2 C k) (rseq_eq (rblock_eq (rw50_3 C k)) rfl)) rfl) ?_
  kernel_rfl
def rQ50_4 (C : Nat → List V → H → Rr) (k : Nat) : X → E → H → Rr := (Qxr (rJ50_1 C k) (rQ50 C k))
def rK50_4 (C : Nat → List V → H → Rr) (k : Nat) (x0 x4 x5 x7 x8 x40 : V) (h : H) : Rr := (rS x40 (some ((.p none), h)) (rK50_1 C k x0 x4 x5 x7 x8 h))
def rJ50_4 (C : Nat → List V → H → Rr) (k : Nat) : E → H → Rr := fun e h => (rK50_4 C k (e 0) (e 4) (e 5) (e 7) (e 8) (e 40) h)
theorem rp50_4 (C : Nat → List V → H → Rr) (k : Nat) : dn C k c50_4 (rQ50_4 C k) = (rJ50_4 C k) := by kernel_rfl
def rS50_16 (C : Nat → List V → H → Rr) (k : Nat) : E → H → Rr := ((Qxr (rJ50_4 C k) (Qxr (rJ50_1 C k) (rQ50 C k))) X.normal)
def rK50_16 (C : Nat → List V → H → Rr) (k : Nat) (x0 x4 x5 x7 x8 x34 x39 : V) (h : H) : Rr := (rB (vPick x34 (.b true) x39) fun v1 => (rK50_4 C k x0 x4 x5 x7 x8 v1 h))
def rJ50_16 (C : Nat → List V → H → Rr) (k : Nat) : E → H → Rr := fun e h => (rK50_16 C k (e 0) (e 4) (e 5) (e 7) (e 8) (e 34) (e 39) h)
theorem rp50_16 (C : Nat → List V → H → Rr) (k : Nat) : dnOps C o50_5 (rS50_16 C k) = (rJ50_16 C k) := by
  refine Eq.trans (rapp_eq rfl rfl) ?_
  kernel_rfl
def rS50_17 (C : Nat → List V → H → Rr) (k : Nat) : E → H → Rr := ((Qxr (rJ50_4 C k) (Qxr (rJ50_1 C k) (rQ50 C k))) X.normal)
def rK50_17 (C : Nat → List V → H → Rr) (k : Nat) (x0 x4 x5 x7 x8 x30 x32 : V) (h : H) : Rr := (rB (vPick x30 (.b true) x32) fun v1 => (rG v1 false (rB (vFa 1 x5) fun v2 => (rB (vLd1 h v2) fun v3 => (rB (vLens v3) fun v4 => (rB (bin .neq v4 x8) fun v5 => (rK50_16 C k x0 x4 x5 x7 x8 v1 v5 h))))) (rK50_16 C k x0 x4 x5 x7 x8 v1 undefV h)))
def rJ50_17 (C : Nat → List V → H → Rr) (k : Nat) : E → H → Rr := fun e h => (rK50_17 C k (e 0) (e 4) (e 5) (e 7) (e 8) (e 30) (e 32) h)
theorem rp50_17 (C : Nat → List V → H → Rr) (k : Nat) : dnOps C o50_7 (rS50_17 C k) = (rJ50_17 C k) := by
  refine Eq.trans (rapp_eq (rgrp_eq2 34 false rfl (rp50_16 C k) rfl) rfl) ?_
  kernel_rfl
def rS50_18 (C : Nat → List V → H → Rr) (k : Nat) : E → H → Rr := ((Qxr (rJ50_4 C k) (Qxr (rJ50_1 C k) (rQ50 C k))) X.normal)
def rK50_18 (C : Nat → List V → H → Rr) (k : Nat) (x0 x4 x5 x7 x8 x26 x28 : V) (h : H) : Rr := (rB (vPick x26 (.b true) x28) fun v1 => (rG v1 false (rB (bin .gtr x8 (.i .i64 4)) fun v2 => (rK50_17 C k x0 x4 x5 x7 x8 v1 v2 h)) (rK50_17 C k x0 x4 x5 x7 x8 v1 undefV h)))
def rJ50_18 (C : Nat → List V → H → Rr) (k : Nat) : E → H → Rr := fun e h => (rK50_18 C k (e 0) (e 4) (e 5) (e 7) (e 8) (e 26) (e 28) h)
theorem rp50_18 (C : Nat → List V → H → Rr) (k : Nat) : dnOps C o50_9 (rS50_18 C k) = (rJ50_18 C k) := by
  refine Eq.trans (rapp_eq (rgrp_eq2 30 false rfl (rp50_17 C k) rfl) rfl) ?_
  kernel_rfl
def rS50_19 (C : Nat → List V → H → Rr) (k : Nat) : E → H → Rr := ((Qxr (rJ50_4 C k) (Qxr (rJ50_1 C k) (rQ50 C k))) X.normal)
def rK50_19 (C : Nat → List V → H → Rr) (k : Nat) (x0 x4 x5 x7 x8 x22 x24 : V) (h : H) : Rr := (rB (vPick x22 (.b true) x24) fun v1 => (rG v1 false (rB (bin .lss x8 (.i .i64 1)) fun v2 => (rK50_18 C k x0 x4 x5 x7 x8 v1 v2 h)) (rK50_18 C k x0 x4 x5 x7 x8 v1 undefV h)))
def rJ50_19 (C : Nat → List V → H → Rr) (k : Nat) : E → H → Rr := fun e h => (rK50_19 C k (e 0) (e 4) (e 5) (e 7) (e 8) (e 22) (e 24) h)
theorem rp50_19 (C : Nat → List V → H → Rr) (k : Nat) : dnOps C o50_11 (rS50_19 C k) = (rJ50_19 C k) := by
  refine Eq.trans (rapp_eq (rgrp_eq2 26 false rfl (rp50_18 C k) rfl) rfl) ?_
  kernel_rfl
def rS50_20 (C : Nat → List V → H → Rr) (k : Nat) : E → H → Rr := ((Qxr (rJ50_4 C k) (Qxr (rJ50_1 C k) (rQ50 C k))) X.normal)
def rK50_20 (C : Nat → List V → H → Rr) (k : Nat) (x0 x4 x5 x7 x8 x18 x20 : V) (h : H) : Rr := (rB (vPick x18 (.b true) x20) fun v1 => (rG v1 false (rB (vEqz false .p x7 (.p none)) fun v2 => (rK50_19 C k x0 x4 x5 x7 x8 v1 v2 h)) (rK50_19 C k x0 x4 x5 x7 x8 v1 undefV h)))
def rJ50_20 (C : Nat → List V → H → Rr) (k : Nat) : E → H → Rr := fun e h => (rK50_20 C k (e 0) (e 4) (e 5) (e 7) (e 8) (e 18) (e 20) h)
theorem rp50_20 (C : Nat → List V → H → Rr) (k : Nat) : dnOps C o50_13 (rS50_20 C k) = (rJ50_20 C k) := by
  refine Eq.trans (rapp_eq (rgrp_eq2 22 false rfl (rp50_19 C k) rfl) rfl) ?_
  kernel_rfl
def rK50 (C : Nat → List V → H → Rr) (k : Nat) (x0 x1 x2 : V) (h : H) : Rr := (rB (vBox x1 h) fun r1 => (rB (vBox x2 r1.2) fun r2 => (rB (vFa 6 r2.1) fun v3 => (rB (vLdA r2.2 3 v3) fun v4 => (rK (C 94 [v4] r2.2) fun v5 h6 => (rB (vFa 0 r2.1) fun v7 => (rB (vLd1 h6 v7) fun v8 => (rB (vLens v8) fun v9 => (rB (bin .lss x0 (.i .i64 0)) fun v10 => (rG v10 false (rB (bin .geq x0 (.i .i64 4)) fun v11 => (rK50_20 C k x0 r1.1 r2.1 v5 v9 v10 v11 h6)) (rK50_20 C k x0 r1.1 r2.1 v5 v9 v10 undefV h6)))))))))))
theorem rp50 (C : Nat → List V → H → Rr) (k : Nat) : dn C k c50 (rQ50 C k) = fun e h => (rK50 C k (e 0) (e 1) (e 2) h) := by
  refine Eq.trans (rseq_eq (rseq_eq (rseq_eq (rseq_eq (rp50_1 C k) (rseq_eq (rp50_4 C k) (rregion_eq (rapp_eq (rgrp_eq2 18 false rfl (rp50_20 C k) rfl) rfl)))) rfl) rfl) rfl) ?_
  kernel_rfl
def F50 : RF := fun C k a h => match a with
  | [a0, a1, a2] => rK50 C k a0 a1 a2 h
  | _ => none
theorem ro50 : RunOK IP 50 F50 := ⟨ir50, ip50, by kernel_rfl, fun C k a h r e => by
  unfold F50 at e
  split at e
  · exact ⟨by kernel_rfl, (congrFun (congrFun (rp50 C k) _) h).trans e⟩
  · cases e⟩
theorem ip51 : IP 51 = some ir51 := rfl
def Q51 [q : Hid (V → H → Prop)] : X → E → H → Prop := Qr rs51 q.un
def Q51_1 [q : Hid (V → H → Prop)] : X → E → H → Prop := (@Q51 q)
def K51_1 (x0 x1 x2 x3 : V) (h : H) [q : Hid (V → H → Prop)] : Prop := @Sel x2 ⟨@wF IP 100 [x0, x1, x3] h ⟨fun v1 h2 => @Hid.un (V → H → Prop) q (.b true) h2⟩⟩ ⟨@wF IP 101 [x0, x1, x3] h ⟨fun v3 h4 => @Hid.un (V → H → Prop) q v3 h4⟩⟩
def J51_1 [q : Hid (V → H → Prop)] : E → H → Prop := fun e h => @K51_1 (e 0) (e 1) (e 2) (e 3) h q
theorem p51_1 [q : Hid (V → H → Prop)] : den IP c51_1 (@Q51_1 q) = (@J51_1 q) := by kernel_rfl
def Q51_2 [q : Hid (V → H → Prop)] : X → E → H → Prop := (Qx (@J51_1 q) (@Q51 q))
def K51_2 (x0 x1 x2 x3 x14 : V) (h : H) [q : Hid (V → H → Prop)] : Prop := @Sel x14 ⟨@Hid.un (V → H → Prop) q (.b false) h⟩ ⟨@K51_1 x0 x1 x2 x3 h q⟩
def J51_2 [q : Hid (V → H → Prop)] : E → H → Prop := fun e h => @K51_2 (e 0) (e 1) (e 2) (e 3) (e 14) h q
theorem p51_2 [q : Hid (V → H → Prop)] : den IP c51_2 (@Q51_2 q) = (@J51_2 q) := by kernel_rfl
def S51_6 [q : Hid (V → H → Prop)] : E → H → Prop := ((Qx (@J51_2 q) (Qx (@J51_1 q) (@Q51 q))) X.normal)
def K51_6 (x0 x1 x2 x3 x11 x13 : V) (h : H) [q : Hid (V → H → Prop)] : Prop := @Bnd V (vPick x11 (.b true) x13) ⟨fun v1 => @K51_2 x0 x1 x2 x3 v1 h q⟩
def J51_6 [q : Hid (V → H → Prop)] : E → H → Prop := fun e h => @K51_6 (e 0) (e 1) (e 2) (e 3) (e 11) (e 13) h q
theorem p51_6 [q : Hid (V → H → Prop)] : denOps IP o51_3 (@S51_6 q) = (@J51_6 q) := by
  refine Eq.trans (app_eq rfl rfl) ?_
  kernel_rfl
def K51 (x0 x1 x2 x3 : V) (h : H) [q : Hid (V → H → Prop)] : Prop := @Bnd V (vEqz false .p x0 (.p none)) ⟨fun v1 => @Grd v1 false ⟨@Bnd V (vEqz false .p x1 (.p none)) ⟨fun v2 => @K51_6 x0 x1 x2 x3 v1 v2 h q⟩⟩ ⟨@K51_6 x0 x1 x2 x3 v1 undefV h q⟩⟩
theorem p51 [q : Hid (V → H → Prop)] : den IP c51 (@Q51 q) = fun e h => @K51 (e 0) (e 1) (e 2) (e 3) h q := by
  refine Eq.trans (seq_eq (seq_eq (@p51_1 q) (seq_eq (@p51_2 q) (region_eq (app_eq (grp_eq2 11 false rfl (@p51_6 q) rfl) rfl)))) rfl) ?_
  kernel_rfl
theorem f51 (a0 a1 a2 a3 : V) (h : H) (Q : V → H → Prop) : @wF IP 51 [a0, a1, a2, a3] h ⟨Q⟩ ↔ @K51 a0 a1 a2 a3 h ⟨Q⟩ := (Fnc_den (ip51) (by kernel_rfl) (by kernel_rfl) h Q).trans (iff_of_eq (congrFun (congrFun (@p51 ⟨Q⟩) _) h))
def rQ51 (C : Nat → List V → H → Rr) (k : Nat) : X → E → H → Rr := Qrr rs51
def rQ51_1 (C : Nat → List V → H → Rr) (k : Nat) : X → E → H → Rr := (rQ51 C k)
def rK51_1 (C : Nat → List V → H → Rr) (k : Nat) (x0 x1 x2 x3 : V) (h : H) : Rr := (rS x2 (rK (C 100 [x0, x1, x3] h) fun v1 h2 => (some ((.b true), h2))) (rK (C 101 [x0, x1, x3] h) fun v3 h4 => (some (v3, h4))))
def rJ51_1 (C : Nat → List V → H → Rr) (k : Nat) : E → H → Rr := fun e h => (rK51_1 C k (e 0) (e 1) (e 2) (e 3) h)
theorem rp51_1 (C : Nat → List V → H → Rr) (k : Nat) : dn C k c51_1 (rQ51_1 C k) = (rJ51_1 C k) := by kernel_rfl
def rQ51_2 (C : Nat → List V → H → Rr) (k : Nat) : X → E → H → Rr := (Qxr (rJ51_1 C k) (rQ51 C k))
def rK51_2 (C : Nat → List V → H → Rr) (k : Nat) (x0 x1 x2 x3 x14 : V) (h : H) : Rr := (rS x14 (some ((.b false), h)) (rK51_1 C k x0 x1 x2 x3 h))
def rJ51_2 (C : Nat → List V → H → Rr) (k : Nat) : E → H → Rr := fun e h => (rK51_2 C k (e 0) (e 1) (e 2) (e 3) (e 14) h)
theorem rp51_2 (C : Nat → List V → H → Rr) (k : Nat) : dn C k c51_2 (rQ51_2 C k) = (rJ51_2 C k) := by kernel_rfl
def rS51_6 (C : Nat → List V → H → Rr) (k : Nat) : E → H → Rr := ((Qxr (rJ51_2 C k) (Qxr (rJ51_1 C k) (rQ51 C k))) X.normal)
def rK51_6 (C : Nat → List V → H → Rr) (k : Nat) (x0 x1 x2 x3 x11 x13 : V) (h : H) : Rr := (rB (vPick x11 (.b true) x13) fun v1 => (rK51_2 C k x0 x1 x2 x3 v1 h))
def rJ51_6 (C : Nat → List V → H → Rr) (k : Nat) : E → H → Rr := fun e h => (rK51_6 C k (e 0) (e 1) (e 2) (e 3) (e 11) (e 13) h)
theorem rp51_6 (C : Nat → List V → H → Rr) (k : Nat) : dnOps C o51_3 (rS51_6 C k) = (rJ51_6 C k) := by
  refine Eq.trans (rapp_eq rfl rfl) ?_
  kernel_rfl
def rK51 (C : Nat → List V → H → Rr) (k : Nat) (x0 x1 x2 x3 : V) (h : H) : Rr := (rB (vEqz false .p x0 (.p none)) fun v1 => (rG v1 false (rB (vEqz false .p x1 (.p none)) fun v2 => (rK51_6 C k x0 x1 x2 x3 v1 v2 h)) (rK51_6 C k x0 x1 x2 x3 v1 undefV h)))
theorem rp51 (C : Nat → List V → H → Rr) (k : Nat) : dn C k c51 (rQ51 C k) = fun e h => (rK51 C k (e 0) (e 1) (e 2) (e 3) h) := by
  refine Eq.trans (rseq_eq (rseq_eq (rp51_1 C k) (rseq_eq (rp51_2 C k) (rregion_eq (rapp_eq (rgrp_eq2 11 false rfl (rp51_6 C k) rfl) rfl)))) rfl) ?_
  kernel_rfl
def F51 : RF := fun C k a h => match a with
  | [a0, a1, a2, a3] => rK51 C k a0 a1 a2 a3 h
  | _ => none
theorem ro51 : RunOK IP 51 F51 := ⟨ir51, ip51, by kernel_rfl, fun C k a h r e => by
  unfold F51 at e
  split at e
  · exact ⟨by kernel_rfl, (congrFun (congrFun (rp51 C k) _) h).trans e⟩
  · cases e⟩
theorem ip52 : IP 52 = some ir52 := rfl
def Q52 [q : Hid (V → H → Prop)] : X → E → H → Prop := Qr rs52 q.un
def S52_4 [q : Hid (V → H → Prop)] : E → H → Prop := ((Qx (den IP .ret (@Q52 q)) (@Q52 q)) X.normal)
def K52_4 (x5 x11 : V) (h : H) [q : Hid (V → H → Prop)] : Prop := @Bnd V (vPick x5 (.b true) x11) ⟨fun v1 => @Hid.un (V → H → Prop) q v1 h⟩
def J52_4 [q : Hid (V → H → Prop)] : E → H → Prop := fun e h => @K52_4 (e 5) (e 11) h q
theorem p52_4 [q : Hid (V → H → Prop)] : denOps IP o52_1 (@S52_4 q) = (@J52_4 q) := by
  refine Eq.trans (app_eq rfl rfl) ?_
  kernel_rfl
def K52 (x0 : V) (h : H) [q : Hid (V → H → Prop)] : Prop := @Bnd V (vEqz false .p x0 (.p none)) ⟨fun v1 => @Grd v1 false ⟨@Bnd V (vNilc x0) ⟨fun v2 => @Bnd V (vFa 35 v2) ⟨fun v3 => @Bnd V (vFa 0 v3) ⟨fun v4 => @Bnd V (vLd1 h v4) ⟨fun v5 => @Bnd V (bin .eql v5 (.i .i64 0)) ⟨fun v6 => @K52_4 v1 v6 h q⟩⟩⟩⟩⟩⟩ ⟨@K52_4 v1 undefV h q⟩⟩
theorem p52 [q : Hid (V → H → Prop)] : den IP c52 (@Q52 q) = fun e h => @K52 (e 0) h q := by
  refine Eq.trans (seq_eq (seq_eq rfl (region_eq (app_eq (grp_eq2 5 false rfl (@p52_4 q) rfl) rfl))) rfl) ?_
  kernel_rfl
theorem f52 (a0 : V) (h : H) (Q : V → H → Prop) : @wF IP 52 [a0] h ⟨Q⟩ ↔ @K52 a0 h ⟨Q⟩ := (Fnc_den (ip52) (by kernel_rfl) (by kernel_rfl) h Q).trans (iff_of_eq (congrFun (congrFun (@p52 ⟨Q⟩) _) h))
def rQ52 (C : Nat → List V → H → Rr) (k : Nat) : X → E → H → Rr := Qrr rs52
def rS52_4 (C : Nat → List V → H → Rr) (k : Nat) : E → H → Rr := ((Qxr (dn C k .ret (rQ52 C k)) (rQ52 C k)) X.normal)
def rK52_4 (C : Nat → List V → H → Rr) (k : Nat) (x5 x11 : V) (h : H) : Rr := (rB (vPick x5 (.b true) x11) fun v1 => (some (v1, h)))
def rJ52_4 (C : Nat → List V → H → Rr) (k : Nat) : E → H → Rr := fun e h => (rK52_4 C k (e 5) (e 11) h)
theorem rp52_4 (C : Nat → List V → H → Rr) (k : Nat) : dnOps C o52_1 (rS52_4 C k) = (rJ52_4 C k) := by
  refine Eq.trans (rapp_eq rfl rfl) ?_
  kernel_rfl
def rK52 (C : Nat → List V → H → Rr) (k : Nat) (x0 : V) (h : H) : Rr := (rB (vEqz false .p x0 (.p none)) fun v1 => (rG v1 false (rB (vNilc x0) fun v2 => (rB (vFa 35 v2) fun v3 => (rB (vFa 0 v3) fun v4 => (rB (vLd1 h v4) fun v5 => (rB (bin .eql v5 (.i .i64 0)) fun v6 => (rK52_4 C k v1 v6 h)))))) (rK52_4 C k v1 undefV h)))
theorem rp52 (C : Nat → List V → H → Rr) (k : Nat) : dn C k c52 (rQ52 C k) = fun e h => (rK52 C k (e 0) h) := by
  refine Eq.trans (rseq_eq (rseq_eq rfl (rregion_eq (rapp_eq (rgrp_eq2 5 false rfl (rp52_4 C k) rfl) rfl))) rfl) ?_
  kernel_rfl
def F52 : RF := fun C k a h => match a with
  | [a0] => rK52 C k a0 h
  | _ => none
theorem ro52 : RunOK IP 52 F52 := ⟨ir52, ip52, by kernel_rfl, fun C k a h r e => by
  unfold F52 at e
  split at e
  · exact ⟨by kernel_rfl, (congrFun (congrFun (rp52 C k) _) h).trans e⟩
  · cases e⟩
theorem ip53 : IP 53 = some ir53 := rfl
def Q53 [q : Hid (V → H → Prop)] : X → E → H → Prop := Qr rs53 q.un
def K53 (x0 : V) (h : H) [q : Hid (V → H → Prop)] : Prop := @Bnd V (vEqz false .p x0 (.p none)) ⟨fun v1 => @Sel v1 ⟨@Hid.un (V → H → Prop) q (.i .u32 0) h⟩ ⟨@Bnd V (vNilc x0) ⟨fun v2 => @Bnd V (vFa 34 v2) ⟨fun v3 => @Bnd V (vLd1 h v3) ⟨fun v4 => @Bnd V (bin .add v4 (.i .u32 1)) ⟨fun v5 => @Hid.un (V → H → Prop) q v5 h⟩⟩⟩⟩⟩⟩
theorem p53 [q : Hid (V → H → Prop)] : den IP c53 (@Q53 q) = fun e h => @K53 (e 0) h q := by kernel_rfl
theorem f53 (a0 : V) (h : H) (Q : V → H → Prop) : @wF IP 53 [a0] h ⟨Q⟩ ↔ @K53 a0 h ⟨Q⟩ := (Fnc_den (ip53) (by kernel_rfl) (by kernel_rfl) h Q).trans (iff_of_eq (congrFun (congrFun (@p53 ⟨Q⟩) _) h))
theorem ip54 : IP 54 = some ir54 := rfl
def Q54 [q : Hid (V → H → Prop)] : X → E → H → Prop := Qr rs54 q.un
def K54 (x0 : V) (h : H) [q : Hid (V → H → Prop)] : Prop := @Bnd V (vEqz false .p x0 (.p none)) ⟨fun v1 => @Sel v1 ⟨@Hid.un (V → H → Prop) q (.p none) h⟩ ⟨@Bnd V (vNilc x0) ⟨fun v2 => @Bnd V (vFa 29 v2) ⟨fun v3 => @Bnd V (vLd1 h v3) ⟨fun v4 => @Hid.un (V → H → Prop) q v4 h⟩⟩⟩⟩⟩
theorem p54 [q : Hid (V → H → Prop)] : den IP c54 (@Q54 q) = fun e h => @K54 (e 0) h q := by kernel_rfl
theorem f54 (a0 : V) (h : H) (Q : V → H → Prop) : @wF IP 54 [a0] h ⟨Q⟩ ↔ @K54 a0 h ⟨Q⟩ := (Fnc_den (ip54) (by kernel_rfl) (by kernel_rfl) h Q).trans (iff_of_eq (congrFun (congrFun (@p54 ⟨Q⟩) _) h))
theorem ip55 : IP 55 = some ir55 := rfl
def Q55 [q : Hid (V → H → Prop)] : X → E → H → Prop := Qr rs55 q.un
def K55 (x0 : V) (h : H) [q : Hid (V → H → Prop)] : Prop := @Bnd V (vEqz false .p x0 (.p none)) ⟨fun v1 => @Sel v1 ⟨@Hid.un (V → H → Prop) q (.p none) h⟩ ⟨@Bnd V (vNilc x0) ⟨fun v2 => @Bnd V (vFa 33 v2) ⟨fun v3 => @Bnd V (vLd1 h v3) ⟨fun v4 => @Hid.un (V → H → Prop) q v4 h⟩⟩⟩⟩⟩
theorem p55 [q : Hid (V → H → Prop)] : den IP c55 (@Q55 q) = fun e h => @K55 (e 0) h q := by kernel_rfl
theorem f55 (a0 : V) (h : H) (Q : V → H → Prop) : @wF IP 55 [a0] h ⟨Q⟩ ↔ @K55 a0 h ⟨Q⟩ := (Fnc_den (ip55) (by kernel_rfl) (by kernel_rfl) h Q).trans (iff_of_eq (congrFun (congrFun (@p55 ⟨Q⟩) _) h))
theorem ip56 : IP 56 = some ir56 := rfl
def Q56 [q : Hid (V → H → Prop)] : X → E → H → Prop := Qr rs56 q.un
def Q56_1 [q : Hid (V → H → Prop)] : X → E → H → Prop := (@Q56 q)
def K56_1 (x0 x1 x2 : V) (h : H) [q : Hid (V → H → Prop)] : Prop := @Bnd V (vNilc x0) ⟨fun v1 => @Bnd V (vFa 31 v1) ⟨fun v2 => @Bnd V (vLd1 h v2) ⟨fun v3 => @Bnd V (vIa 1 v3 x1) ⟨fun v4 => @Bnd V (vLd1 h v4) ⟨fun v5 => @wF IP 102 [v5, x2] h ⟨fun v6 h7 => @Hid.un (V → H → Prop) q v6 h7⟩⟩⟩⟩⟩⟩
def J56_1 [q : Hid (V → H → Prop)] : E → H → Prop := fun e h => @K56_1 (e 0) (e 1) (e 2) h q
theorem p56_1 [q : Hid (V → H → Prop)] : den IP c56_1 (@Q56_1 q) = (@J56_1 q) := by kernel_rfl
def Q56_2 [q : Hid (V → H → Prop)] : X → E → H → Prop := (Qx (@J56_1 q) (@Q56 q))
def K56_2 (x0 x1 x2 x21 : V) (h : H) [q : Hid (V → H → Prop)] : Prop := @Sel x21 ⟨@Hid.un (V → H → Prop) q (.i .i64 0) h⟩ ⟨@K56_1 x0 x1 x2 h q⟩
def J56_2 [q : Hid (V → H → Prop)] : E → H → Prop := fun e h => @K56_2 (e 0) (e 1) (e 2) (e 21) h q
theorem p56_2 [q : Hid (V → H → Prop)] : den IP c56_2 (@Q56_2 q) = (@J56_2 q) := by kernel_rfl
def S56_8 [q : Hid (V → H → Prop)] : E → H → Prop := ((Qx (@J56_2 q) (Qx (@J56_1 q) (@Q56 q))) X.normal)
def K56_8 (x0 x1 x2 x13 x20 : V) (h : H) [q : Hid (V → H → Prop)] : Prop := @Bnd V (vPick x13 (.b true) x20) ⟨fun v1 => @K56_2 x0 x1 x2 v1 h q⟩
def J56_8 [q : Hid (V → H → Prop)] : E → H → Prop := fun e h => @K56_8 (e 0) (e 1) (e 2) (e 13) (e 20) h q
theorem p56_8 [q : Hid (V → H → Prop)] : denOps IP o56_3 (@S56_8 q) = (@J56_8 q) := by
  refine Eq.trans (app_eq rfl rfl) ?_
  kernel_rfl
def S56_9 [q : Hid (V → H → Prop)] : E → H → Prop := ((Qx (@J56_2 q) (Qx (@J56_1 q) (@Q56 q))) X.normal)
def K56_9 (x0 x1 x2 x9 x11 : V) (h : H) [q : Hid (V → H → Prop)] : Prop := @Bnd V (vPick x9 (.b true) x11) ⟨fun v1 => @Grd v1 false ⟨@Bnd V (vNilc x0) ⟨fun v2 => @Bnd V (vFa 31 v2) ⟨fun v3 => @Bnd V (vLd1 h v3) ⟨fun v4 => @Bnd V (vLens v4) ⟨fun v5 => @Bnd V (bin .geq x1 v5) ⟨fun v6 => @K56_8 x0 x1 x2 v1 v6 h q⟩⟩⟩⟩⟩⟩ ⟨@K56_8 x0 x1 x2 v1 undefV h q⟩⟩
def J56_9 [q : Hid (V → H → Prop)] : E → H → Prop := fun e h => @K56_9 (e 0) (e 1) (e 2) (e 9) (e 11) h q
theorem p56_9 [q : Hid (V → H → Prop)] : denOps IP o56_5 (@S56_9 q) = (@J56_9 q) := by
  refine Eq.trans (app_eq (grp_eq2 13 false rfl (@p56_8 q) rfl) rfl) ?_
  kernel_rfl
def K56 (x0 x1 x2 : V) (h : H) [q : Hid (V → H → Prop)] : Prop := @Bnd V (vEqz false .p x0 (.p none)) ⟨fun v1 => @Grd v1 false ⟨@Bnd V (bin .lss x1 (.i .i64 0)) ⟨fun v2 => @K56_9 x0 x1 x2 v1 v2 h q⟩⟩ ⟨@K56_9 x0 x1 x2 v1 undefV h q⟩⟩
theorem p56 [q : Hid (V → H → Prop)] : den IP c56 (@Q56 q) = fun e h => @K56 (e 0) (e 1) (e 2) h q := by
  refine Eq.trans (seq_eq (seq_eq (@p56_1 q) (seq_eq (@p56_2 q) (region_eq (app_eq (grp_eq2 9 false rfl (@p56_9 q) rfl) rfl)))) rfl) ?_
  kernel_rfl
theorem f56 (a0 a1 a2 : V) (h : H) (Q : V → H → Prop) : @wF IP 56 [a0, a1, a2] h ⟨Q⟩ ↔ @K56 a0 a1 a2 h ⟨Q⟩ := (Fnc_den (ip56) (by kernel_rfl) (by kernel_rfl) h Q).trans (iff_of_eq (congrFun (congrFun (@p56 ⟨Q⟩) _) h))
theorem ip57 : IP 57 = some ir57 := rfl
def Q57 [q : Hid (V → H → Prop)] : X → E → H → Prop := Qr rs57 q.un
def K57 (x0 : V) (h : H) [q : Hid (V → H → Prop)] : Prop := @Bnd V (vEqz false .p x0 (.p none)) ⟨fun v1 => @Sel v1 ⟨@Hid.un (V → H → Prop) q V.nsl h⟩ ⟨@Bnd V (vNilc x0) ⟨fun v2 => @Bnd V (vFa 103 v2) ⟨fun v3 => @Bnd V (vLd1 h v3) ⟨fun v4 => @Bnd V (vNilc x0) ⟨fun v5 => @Bnd V (vFa 103 v5) ⟨fun v6 => @Bnd (V × H) (vStore h 1 v6 V.nsl) ⟨fun r7 => @Hid.un (V → H → Prop) q v4 r7.2⟩⟩⟩⟩⟩⟩⟩⟩
theorem p57 [q : Hid (V → H → Prop)] : den IP c57 (@Q57 q) = fun e h => @K57 (e 0) h q := by kernel_rfl
theorem f57 (a0 : V) (h : H) (Q : V → H → Prop) : @wF IP 57 [a0] h ⟨Q⟩ ↔ @K57 a0 h ⟨Q⟩ := (Fnc_den (ip57) (by kernel_rfl) (by kernel_rfl) h Q).trans (iff_of_eq (congrFun (congrFun (@p57 ⟨Q⟩) _) h))
def rQ57 (C : Nat → List V → H → Rr) (k : Nat) : X → E → H → Rr := Qrr rs57
def rK57 (C : Nat → List V → H → Rr) (k : Nat) (x0 : V) (h : H) : Rr := (rB (vEqz false .p x0 (.p none)) fun v1 => (rS v1 (some (V.nsl, h)) (rB (vNilc x0) fun v2 => (rB (vFa 103 v2) fun v3 => (rB (vLd1 h v3) fun v4 => (rB (vNilc x0) fun v5 => (rB (vFa 103 v5) fun v6 => (rB (vStore h 1 v6 V.nsl) fun r7 => (some (v4, r7.2))))))))))
theorem rp57 (C : Nat → List V → H → Rr) (k : Nat) : dn C k c57 (rQ57 C k) = fun e h => (rK57 C k (e 0) h) := by kernel_rfl
def F57 : RF := fun C k a h => match a with
  | [a0] => rK57 C k a0 h
  | _ => none
theorem ro57 : RunOK IP 57 F57 := ⟨ir57, ip57, by kernel_rfl, fun C k a h r e => by
  unfold F57 at e
  split at e
  · exact ⟨by kernel_rfl, (congrFun (congrFun (rp57 C k) _) h).trans e⟩
  · cases e⟩
theorem ip58 : IP 58 = some ir58 := rfl
def rQ58 (C : Nat → List V → H → Rr) (k : Nat) : X → E → H → Rr := Qrr rs58
def rQ58_1 (C : Nat → List V → H → Rr) (k : Nat) : X → E → H → Rr := (rQ58 C k)
def rQ58_2 (C : Nat → List V → H → Rr) (k : Nat) : X → E → H → Rr := (rQ58_1 C k)
def rK58_2 (C : Nat → List V → H → Rr) (k : Nat) (h : H) : Rr := (some ((.i .i64 0), h))
def rJ58_2 (C : Nat → List V → H → Rr) (k : Nat) : E → H → Rr := fun e h => (rK58_2 C k h)
theorem rp58_2 (C : Nat → List V → H → Rr) (k : Nat) : dn C k c58_2 (rQ58_2 C k) = (rJ58_2 C k) := by kernel_rfl
def rR58_3 (C : Nat → List V → H → Rr) (k : Nat) : X → E → H → Rr := (Qbr 0 (Qxr (rJ58_2 C k) (rQ58_1 C k)))
def rQ58_3 (C : Nat → List V → H → Rr) (k : Nat) (g58_3 : V → V → V → V → H → Rr) : X → E → H → Rr := Qxr (fun e h => g58_3 (e 0) (e 3) (e 26) (e 27) h) (rR58_3 C k)
def rQ58_4 (C : Nat → List V → H → Rr) (k : Nat) (g58_3 : V → V → V → V → H → Rr) : X → E → H → Rr := (rQ58_3 C k g58_3)
def rK58_4 (C : Nat → List V → H → Rr) (k : Nat) (g58_3 : V → V → V → V → H → Rr) (x0 x3 x26 x27 : V) (h : H) : Rr := (rB (bin .add x27 (.i .i64 1)) fun v1 => (g58_3 x0 x3 x26 v1 h))
def rJ58_4 (C : Nat → List V → H → Rr) (k : Nat) (g58_3 : V → V → V → V → H → Rr) : E → H → Rr := fun e h => (rK58_4 C k g58_3 (e 0) (e 3) (e 26) (e 27) h)
theorem rp58_4 (C : Nat → List V → H → Rr) (k : Nat) (g58_3 : V → V → V → V → H → Rr) : dn C k c58_4 (rQ58_4 C k g58_3) = (rJ58_4 C k g58_3) := by kernel_rfl
def rR58_5 (C : Nat → List V → H → Rr) (k : Nat) (g58_3 : V → V → V → V → H → Rr) : X → E → H → Rr := (Qbr 2 (Qbr 1 (Qxr (rJ58_4 C k g58_3) (rQ58_3 C k g58_3))))
def rQ58_5 (C : Nat → List V → H → Rr) (k : Nat) (g58_3 : V → V → V → V → H → Rr) (g58_5 : V → V → V → V → V → V → H → Rr) : X → E → H → Rr := Qxr (fun e h => g58_5 (e 0) (e 3) (e 5) (e 26) (e 27) (e 38) h) (rR58_5 C k g58_3)
def rL58_5 (C : Nat → List V → H → Rr) (k : Nat) (g58_3 : V → V → V → V → H → Rr) (g58_5 : V → V → V → V → V → V → H → Rr) (x0 x3 x5 x26 x27 x38 : V) (h : H) : Rr := (rB (bin .lss x38 (.i .i64 3)) fun v1 => (rS v1 (rB (vLdA h 2 x3) fun v2 => (rB (vCvi .u64 x5) fun v3 => (rK (C 106 [v2, v3] h) fun v4 h5 => (rB (bin .add v4 (.i .i64 1)) fun v6 => (rB (bin .add v6 x38) fun v7 => (rK (C 85 [x0, v7, (.i .u64 0)] h5) fun v8 h9 => (rB (bin .add x38 (.i .i64 1)) fun v10 => (g58_5 x0 x3 x5 x26 x27 v10 h9)))))))) (rK58_4 C k g58_3 x0 x3 x26 x27 h)))
theorem rp58_5 (C : Nat → List V → H → Rr) (k : Nat) (g58_3 : V → V → V → V → H → Rr) (g58_5 : V → V → V → V → V → V → H → Rr) : dn C k c58_5 (rQ58_5 C k g58_3 g58_5) = fun e h => (rL58_5 C k g58_3 g58_5 (e 0) (e 3) (e 5) (e 26) (e 27) (e 38) h) := by kernel_rfl
def rW58_5 (C : Nat → List V → H → Rr) (k : Nat) (g58_3 : V → V → V → V → H → Rr) (x0 x3 x5 x26 x27 x38 : V) (h : H) : Rr := rFix k (fun (g : V × V × V × V × V × V × Unit → H → Rr) (x : V × V × V × V × V × V × Unit) h => rL58_5 C k g58_3 (fun y0 y3 y5 y26 y27 y38 h => g (y0, y3, y5, y26, y27, y38, ()) h) x.1 x.2.1 x.2.2.1 x.2.2.2.1 x.2.2.2.2.1 x.2.2.2.2.2.1 h) (x0, x3, x5, x26, x27, x38, ()) h
theorem rn58_5 (C : Nat → List V → H → Rr) (k : Nat) (g58_3 : V → V → V → V → H → Rr) : ∀ g : V × V × V × V × V × V × Unit → H → Rr, dn C k c58_5 (Qxr (fun e h => g ((fun e : E => ((e 0, e 3, e 5, e 26, e 27, e 38, ()) : V × V × V × V × V × V × Unit)) e) h) (rR58_5 C k g58_3)) = fun e h => (fun (g : V × V × V × V × V × V × Unit → H → Rr) (x : V × V × V × V × V × V × Unit) h => rL58_5 C k g58_3 (fun y0 y3 y5 y26 y27 y38 h => g (y0, y3, y5, y26, y27, y38, ()) h) x.1 x.2.1 x.2.2.1 x.2.2.2.1 x.2.2.2.2.1 x.2.2.2.2.2.1 h) g ((fun e : E => ((e 0, e 3, e 5, e 26, e 27, e 38, ()) : V × V × V × V × V × V × Unit)) e) h := fun g => rp58_5 C k g58_3 (fun y0 y3 y5 y26 y27 y38 h => g (y0, y3, y5, y26, y27, y38, ()) h)
theorem rw58_5 (C : Nat → List V → H → Rr) (k : Nat) (g58_3 : V → V → V → V → H → Rr) : dn C k (.loop c58_5) (rR58_5 C k g58_3) = fun e h => (rW58_5 C k g58_3 (e 0) (e 3) (e 5) (e 26) (e 27) (e 38) h) := rloop_eq (fun e : E => ((e 0, e 3, e 5, e 26, e 27, e 38, ()) : V × V × V × V × V × V × Unit)) (fun (g : V × V × V × V × V × V × Unit → H → Rr) (x : V × V × V × V × V × V × Unit) h => rL58_5 C k g58_3 (fun y0 y3 y5 y26 y27 y38 h => g (y0, y3, y5, y26, y27, y38, ()) h) x.1 x.2.1 x.2.2.1 x.2.2.2.1 x.2.2.2.2.1 x.2.2.2.2.2.1 h) (rn58_5 C k g58_3)
def rL58_3 (C : Nat → List V → H → Rr) (k : Nat) (g58_3 : V → V → V → V → H → Rr) (x0 x3 x26 x27 : V) (h : H) : Rr := (rB (bin .lss x27 x26) fun v1 => (rS v1 (rB (vLdA h 2 x3) fun v2 => (rB (vCvi .u64 x27) fun v3 => (rK (C 106 [v2, v3] h) fun v4 h5 => (rB (vCvi .u64 x27) fun v6 => (rK (C 85 [x0, v4, v6] h5) fun v7 h8 => (rW58_5 C k g58_3 x0 x3 x27 x26 x27 (.i .i64 0) h8)))))) (rK58_2 C k h)))
theorem rp58_3 (C : Nat → List V → H → Rr) (k : Nat) (g58_3 : V → V → V → V → H → Rr) : dn C k c58_3 (rQ58_3 C k g58_3) = fun e h => (rL58_3 C k g58_3 (e 0) (e 3) (e 26) (e 27) h) := by
  refine Eq.trans (rseq_eq (rseq_eq (rseq_eq (rp58_4 C k g58_3) (rblock_eq (rseq_eq (rseq_eq (rseq_eq (rblock_eq (rw58_5 C k g58_3)) rfl) rfl) rfl))) rfl) rfl) ?_
  kernel_rfl
def rW58_3 (C : Nat → List V → H → Rr) (k : Nat) (x0 x3 x26 x27 : V) (h : H) : Rr := rFix k (fun (g : V × V × V × V × Unit → H → Rr) (x : V × V × V × V × Unit) h => rL58_3 C k (fun y0 y3 y26 y27 h => g (y0, y3, y26, y27, ()) h) x.1 x.2.1 x.2.2.1 x.2.2.2.1 h) (x0, x3, x26, x27, ()) h
theorem rn58_3 (C : Nat → List V → H → Rr) (k : Nat) : ∀ g : V × V × V × V × Unit → H → Rr, dn C k c58_3 (Qxr (fun e h => g ((fun e : E => ((e 0, e 3, e 26, e 27, ()) : V × V × V × V × Unit)) e) h) (rR58_3 C k)) = fun e h => (fun (g : V × V × V × V × Unit → H → Rr) (x : V × V × V × V × Unit) h => rL58_3 C k (fun y0 y3 y26 y27 h => g (y0, y3, y26, y27, ()) h) x.1 x.2.1 x.2.2.1 x.2.2.2.1 h) g ((fun e : E => ((e 0, e 3, e 26, e 27, ()) : V × V × V × V × Unit)) e) h := fun g => rp58_3 C k (fun y0 y3 y26 y27 h => g (y0, y3, y26, y27, ()) h)
theorem rw58_3 (C : Nat → List V → H → Rr) (k : Nat) : dn C k (.loop c58_3) (rR58_3 C k) = fun e h => (rW58_3 C k (e 0) (e 3) (e 26) (e 27) h) := rloop_eq (fun e : E => ((e 0, e 3, e 26, e 27, ()) : V × V × V × V × Unit)) (fun (g : V × V × V × V × Unit → H → Rr) (x : V × V × V × V × Unit) h => rL58_3 C k (fun y0 y3 y26 y27 h => g (y0, y3, y26, y27, ()) h) x.1 x.2.1 x.2.2.1 x.2.2.2.1 h) (rn58_3 C k)
def rK58_1 (C : Nat → List V → H → Rr) (k : Nat) (x0 x3 : V) (h : H) : Rr := (rB (vFa 0 x3) fun v1 => (rB (vLd1 h v1) fun v2 => (rK (C 85 [x0, v2, (.i .u64 0)] h) fun v3 h4 => (rB (vFa 1 x3) fun v5 => (rB (vLd1 h4 v5) fun v6 => (rW58_3 C k x0 x3 v6 (.i .i64 0) h4))))))
def rJ58_1 (C : Nat → List V → H → Rr) (k : Nat) : E → H → Rr := fun e h => (rK58_1 C k (e 0) (e 3) h)
theorem rp58_1 (C : Nat → List V → H → Rr) (k : Nat) : dn C k c58_1 (rQ58_1 C k) = (rJ58_1 C k) := by
  refine Eq.trans (rseq_eq (rseq_eq (rp58_2 C k) (rseq_eq (rblock_eq (rw58_3 C k)) rfl)) rfl) ?_
  kernel_rfl
def rQ58_6 (C : Nat → List V → H → Rr) (k : Nat) : X → E → H → Rr := (Qxr (rJ58_1 C k) (rQ58 C k))
def rK58_6 (C : Nat → List V → H → Rr) (k : Nat) (x0 x3 x20 : V) (h : H) : Rr := (rS x20 (some ((.i .i64 1), h)) (rK58_1 C k x0 x3 h))
def rJ58_6 (C : Nat → List V → H → Rr) (k : Nat) : E → H → Rr := fun e h => (rK58_6 C k (e 0) (e 3) (e 20) h)
theorem rp58_6 (C : Nat → List V → H → Rr) (k : Nat) : dn C k c58_6 (rQ58_6 C k) = (rJ58_6 C k) := by kernel_rfl
def rS58_10 (C : Nat → List V → H → Rr) (k : Nat) : List (E × H) → E → H → Rr := (fun st e h => rChk o58_9 ((e, h) :: st) 14 [(5, 8), (5, 11)] ((Qxr (rJ58_6 C k) (Qxr (rJ58_1 C k) (rQ58 C k))) X.normal e h))
def rK58_10 (C : Nat → List V → H → Rr) (k : Nat) (k11_h : H) (k12_h : H) (k5_10 : V) (k5_11 : V) (k8_h : H) (k9_h : H) (x0 x3 x10 x19 : V) (h : H) : Rr := (rB (vPick x10 (.b true) x19) fun v1 => (rC (stdyG k5_10 false (stdy false 1 k5_11 k8_h k9_h)) (rC (stdyG k5_10 false (stdy false 1 k5_11 k11_h k12_h)) (rK58_6 C k x0 x3 v1 h))))
def rJ58_10 (C : Nat → List V → H → Rr) (k : Nat) : List (E × H) → E → H → Rr := fun st e h => (rK58_10 C k (List.getD st 1 eh0).2 (List.getD st 0 eh0).2 ((List.getD st 7 eh0).1 10) ((List.getD st 7 eh0).1 11) (List.getD st 4 eh0).2 (List.getD st 3 eh0).2 (e 0) (e 3) (e 10) (e 19) h)
theorem rp58_10 (C : Nat → List V → H → Rr) (k : Nat) : dnT C o58_7 (rS58_10 C k) = (rJ58_10 C k) := by
  refine Eq.trans (rtapp_eq rfl rfl) ?_
  kernel_rfl
def rK58 (C : Nat → List V → H → Rr) (k : Nat) (x0 x1 : V) (h : H) : Rr := (rB (vBox x1 h) fun r1 => (rB (vLdA r1.2 2 r1.1) fun v2 => (rK (C 103 [v2] r1.2) fun v3 h4 => (rB (un .not v3) fun v5 => (rG v5 false (rB (vFa 0 r1.1) fun v6 => (rB (vLd1 h4 v6) fun v7 => (rB (vFa 1 r1.1) fun v8 => (rB (vLd1 h4 v8) fun v9 => (rK (C 104 [v9] h4) fun v10 h11 => (rB (bin .add v7 v10) fun v12 => (rK (C 105 [x0] h11) fun v13 h14 => (rB (bin .gtr v12 v13) fun v15 => (rK58_10 C k h11 h14 v5 v6 h4 h11 x0 r1.1 v5 v15 h14))))))))) (rK58_10 C k h4 h4 v5 undefV h4 h4 x0 r1.1 v5 undefV h4))))))
theorem rp58 (C : Nat → List V → H → Rr) (k : Nat) : dn C k c58 (rQ58 C k) = fun e h => (rK58 C k (e 0) (e 1) h) := by
  refine Eq.trans (rseq_eq (rseq_eq (rp58_1 C k) (rseq_eq (rp58_6 C k) (rdraw_eq (rtapp_eq (rtgrp_eq2 10 false rfl (rp58_10 C k) rfl) rfl)))) rfl) ?_
  kernel_rfl
def F58 : RF := fun C k a h => match a with
  | [a0, a1] => rK58 C k a0 a1 h
  | _ => none
theorem ro58 : RunOK IP 58 F58 := ⟨ir58, ip58, by kernel_rfl, fun C k a h r e => by
  unfold F58 at e
  split at e
  · exact ⟨by kernel_rfl, (congrFun (congrFun (rp58 C k) _) h).trans e⟩
  · cases e⟩
theorem ip60 : IP 60 = some ir60 := rfl
def rQ60 (C : Nat → List V → H → Rr) (k : Nat) : X → E → H → Rr := Qrr rs60
def rK60 (C : Nat → List V → H → Rr) (k : Nat) (x0 : V) (h : H) : Rr := (rB (vBox x0 h) fun r1 => (rB (some (.p (some (H.nx r1.2, 0)), H.new r1.2 ⟨false, [(.i .u64 0), (.i .u64 0), (.i .u64 0)]⟩)) fun r2 => (rB (vLdA r2.2 11 r1.1) fun v3 => (rK (C 107 [v3] r2.2) fun v4 h5 => (rB (un .not v4) fun v6 => (rS v6 (rB (vBld [(.i .u64 0), (.i .u64 0), (.i .u64 0)] []) fun v7 => (rB (vStore h5 3 r2.1 v7) fun r8 => (rB (vLdA r8.2 3 r2.1) fun v9 => (some ((.tup [v9, (.b false)]), r8.2))))) (rB (vLdA h5 2 (.p (some (0, 0)))) fun v10 => (rB (vFa 0 r1.1) fun v11 => (rB (vLd1 h5 v11) fun v12 => (rB (vCvi .u64 v12) fun v13 => (rK (C 108 [v10, (.i .u64 0), v13] h5) fun v14 h15 => (rB (vLdA h15 2 (.p (some (1, 0)))) fun v16 => (rB (vFa 1 r1.1) fun v17 => (rB (vLd1 h15 v17) fun v18 => (rB (vCvi .u64 v18) fun v19 => (rK (C 108 [v16, v14, v19] h15) fun v20 h21 => (rB (vLdA h21 2 (.p (some (2, 0)))) fun v22 => (rB (vFa 2 r1.1) fun v23 => (rB (vLd1 h21 v23) fun v24 => (rB (vCvi .u64 v24) fun v25 => (rK (C 108 [v22, v20, v25] h21) fun v26 h27 => (rB (vLdA h27 2 (.p (some (3, 0)))) fun v28 => (rB (vFa 3 r1.1) fun v29 => (rB (vLd1 h27 v29) fun v30 => (rB (vCvi .u64 v30) fun v31 => (rK (C 108 [v28, v26, v31] h27) fun v32 h33 => (rB (vLdA h33 2 (.p (some (4, 0)))) fun v34 => (rB (vFa 6 r1.1) fun v35 => (rB (vLd1 h33 v35) fun v36 => (rB (vCvi .u64 v36) fun v37 => (rK (C 108 [v34, v32, v37] h33) fun v38 h39 => (rB (vLdA h39 2 (.p (some (5, 0)))) fun v40 => (rB (vFa 7 r1.1) fun v41 => (rB (vLd1 h39 v41) fun v42 => (rK (C 109 [v42] h39) fun v43 h44 => (rK (C 108 [v40, v38, v43] h44) fun v45 h46 => (rC (stdy true 2 (.p (some (5, 0))) h39 h44) (rB (vLdA h46 2 (.p (some (6, 0)))) fun v47 => (rB (vFa 8 r1.1) fun v48 => (rB (vLd1 h46 v48) fun v49 => (rK (C 109 [v49] h46) fun v50 h51 => (rK (C 108 [v47, v45, v50] h51) fun v52 h53 => (rC (stdy true 2 (.p (some (6, 0))) h46 h51) (rB (vLdA h53 2 (.p (some (7, 0)))) fun v54 => (rB (vFa 4 r1.1) fun v55 => (rB (vLd1 h53 v55) fun v56 => (rB (vCvi .u64 v56) fun v57 => (rK (C 108 [v54, v52, v57] h53) fun v58 h59 => (rB (vLdA h59 2 (.p (some (8, 0)))) fun v60 => (rB (vFa 5 r1.1) fun v61 => (rB (vLd1 h59 v61) fun v62 => (rB (vCvi .u64 v62) fun v63 => (rB (vFa 10 r1.1) fun v64 => (rB (vLd1 h59 v64) fun v65 => (rB (vCvi .u64 v65) fun v66 => (rK (C 108 [v60, v63, v66] h59) fun v67 h68 => (rB (vFa 9 r1.1) fun v69 => (rB (vLd1 h68 v69) fun v70 => (rB (vCvi .u64 v70) fun v71 => (rB (vBld [(.i .u64 0), (.i .u64 0), (.i .u64 0)] [(0, 1, v58), (1, 1, v67), (2, 1, v71)]) fun v72 => (rB (vStore h68 3 r2.1 v72) fun r73 => (rC (stdy false 1 v69 h59 h68) (rB (vLdA r73.2 3 r2.1) fun v74 => (some ((.tup [v74, (.b true)]), r73.2)))))))))))))))))))))))))))))))))))))))))))))))))))))))))))))))))
theorem rp60 (C : Nat → List V → H → Rr) (k : Nat) : dn C k c60 (rQ60 C k) = fun e h => (rK60 C k (e 0) h) := by kernel_rfl
def F60 : RF := fun C k a h => match a with
  | [a0] => rK60 C k a0 h
  | _ => none
theorem ro60 : RunOK IP 60 F60 := ⟨ir60, ip60, by kernel_rfl, fun C k a h r e => by
  unfold F60 at e
  split at e
  · exact ⟨by kernel_rfl, (congrFun (congrFun (rp60 C k) _) h).trans e⟩
  · cases e⟩
theorem ip61 : IP 61 = some ir61 := rfl
def rQ61 (C : Nat → List V → H → Rr) (k : Nat) : X → E → H → Rr := Qrr rs61
def rK61 (C : Nat → List V → H → Rr) (k : Nat) (x0 x1 : V) (h : H) : Rr := (rB (vBox x0 h) fun r1 => (rB (vBox x1 r1.2) fun r2 => (rB (some (.p (some (H.nx r2.2, 0)), H.new r2.2 ⟨false, [(.i .i64 0), (.i .i64 0), (.i .u64 0), (.i .u64 0), (.i .u64 0), (.i .u64 0), (.i .i64 0), (.b false), (.b false)]⟩)) fun r3 => (rB (vLdA r3.2 2 r1.1) fun v4 => (rB (vLdA r3.2 3 r2.1) fun v5 => (rB (vBld [(.i .i64 0), (.i .i64 0), (.i .u64 0), (.i .u64 0), (.i .u64 0), (.i .u64 0), (.i .i64 0), (.b false), (.b false)] [(0, 2, v4), (2, 3, v5)]) fun v6 => (rB (vStore r3.2 9 r3.1 v6) fun r7 => (rB (vLdA r7.2 9 r3.1) fun v8 => (some (v8, r7.2))))))))))
theorem rp61 (C : Nat → List V → H → Rr) (k : Nat) : dn C k c61 (rQ61 C k) = fun e h => (rK61 C k (e 0) (e 1) h) := by kernel_rfl
def F61 : RF := fun C k a h => match a with
  | [a0, a1] => rK61 C k a0 a1 h
  | _ => none
theorem ro61 : RunOK IP 61 F61 := ⟨ir61, ip61, by kernel_rfl, fun C k a h r e => by
  unfold F61 at e
  split at e
  · exact ⟨by kernel_rfl, (congrFun (congrFun (rp61 C k) _) h).trans e⟩
  · cases e⟩
theorem ip62 : IP 62 = some ir62 := rfl
def rQ62 (C : Nat → List V → H → Rr) (k : Nat) : X → E → H → Rr := Qrr rs62
def rQ62_1 (C : Nat → List V → H → Rr) (k : Nat) : X → E → H → Rr := (rQ62 C k)
def rK62_1 (C : Nat → List V → H → Rr) (k : Nat) (x2 x4 : V) (h : H) : Rr := (rB (vLdA h 9 x2) fun v1 => (rB (vStore h 9 x4 v1) fun r2 => (rB (vLdA r2.2 9 x4) fun v3 => (some (v3, r2.2)))))
def rJ62_1 (C : Nat → List V → H → Rr) (k : Nat) : E → H → Rr := fun e h => (rK62_1 C k (e 2) (e 4) h)
theorem rp62_1 (C : Nat → List V → H → Rr) (k : Nat) : dn C k c62_1 (rQ62_1 C k) = (rJ62_1 C k) := by kernel_rfl
def rK62 (C : Nat → List V → H → Rr) (k : Nat) (x0 x1 : V) (h : H) : Rr := (rB (vBox x0 h) fun r1 => (rB (some (.p (some (H.nx r1.2, 0)), H.new r1.2 ⟨false, [(.i .i64 0), (.i .i64 0), (.i .u64 0), (.i .u64 0), (.i .u64 0), (.i .u64 0), (.i .i64 0), (.b false), (.b false)]⟩)) fun r2 => (rB (vLdA r2.2 9 r1.1) fun v3 => (rK (C 63 [v3] r2.2) fun v4 h5 => (rB (vExt v4 0) fun v6 => (rB (vExt v4 1) fun v7 => (rS v7 (rB (vLdA h5 9 r1.1) fun v8 => (rB (vStore h5 9 r2.1 v8) fun r9 => (rB (vLdA r9.2 9 r2.1) fun v10 => (some (v10, r9.2))))) (rB (vFa 0 r1.1) fun v11 => (rB (vLdA h5 2 v11) fun v12 => (rK (C 103 [v12] h5) fun v13 h14 => (rB (un .not v13) fun v15 => (rS v15 (rB (vFa 8 r1.1) fun v16 => (rB (vStore h14 1 v16 (.b true)) fun r17 => (rB (vLdA r17.2 9 r1.1) fun v18 => (rB (vStore r17.2 9 r2.1 v18) fun r19 => (rB (vLdA r19.2 9 r2.1) fun v20 => (some (v20, r19.2))))))) (rB (vFa 6 r1.1) fun v21 => (rB (vLd1 h14 v21) fun v22 => (rB (bin .eql v22 (.i .i64 0)) fun v23 => (rS v23 (rB (vFa 0 r1.1) fun v24 => (rB (vLdA h14 2 v24) fun v25 => (rK (C 111 [v25] h14) fun v26 h27 => (rK (C 110 [x1, v26] h27) fun v28 h29 => (rB (vFa 5 r1.1) fun v30 => (rB (vStore h29 1 v30 v28) fun r31 => (rB (vFa 6 r1.1) fun v32 => (rB (vStore r31.2 1 v32 (.i .i64 1)) fun r33 => (rK62_1 C k r1.1 r2.1 r33.2))))))))) (rB (bin .eql v22 (.i .i64 1)) fun v34 => (rS v34 (rB (vLdA h14 9 r1.1) fun v35 => (rB (vFa 0 r1.1) fun v36 => (rB (vLdA h14 2 v36) fun v37 => (rB (vFa 5 r1.1) fun v38 => (rB (vLd1 h14 v38) fun v39 => (rK (C 113 [v37, v39] h14) fun v40 h41 => (rK (C 110 [x1, v40] h41) fun v42 h43 => (rK (C 112 [v35, v42] h43) fun v44 h45 => (rB (vStore h45 9 r1.1 v44) fun r46 => (rC (stdy true 9 r1.1 h14 h41) (rC (stdy true 9 r1.1 h41 h43) (rK62_1 C k r1.1 r2.1 r46.2)))))))))))) (rB (bin .eql v22 (.i .i64 2)) fun v47 => (rS v47 (rB (vFa 6 r1.1) fun v48 => (rB (vStore h14 1 v48 (.i .i64 0)) fun r49 => (rB (vFa 0 r1.1) fun v50 => (rB (vLdA r49.2 2 v50) fun v51 => (rK (C 111 [v51] r49.2) fun v52 h53 => (rB (vFa 5 r1.1) fun v54 => (rB (vLd1 h53 v54) fun v55 => (rB (vFa 5 r1.1) fun v56 => (rB (vLd1 h53 v56) fun v57 => (rB (bin .add v57 (.i .u64 1)) fun v58 => (rK (C 114 [x1, v52, v55, v58] h53) fun v59 h60 => (rC (stdy false 1 v54 r49.2 h53) (rC (stdy false 1 v56 r49.2 h53) (rS v59 (rB (vFa 6 r1.1) fun v61 => (rB (vStore h60 1 v61 (.i .i64 3)) fun r62 => (rK62_1 C k r1.1 r2.1 r62.2))) (rK62_1 C k r1.1 r2.1 h60))))))))))))))) (rB (bin .eql v22 (.i .i64 6)) fun v63 => (rS v63 (rB (vFa 0 r1.1) fun v64 => (rB (vLdA h14 2 v64) fun v65 => (rB (vFa 5 r1.1) fun v66 => (rB (vLd1 h14 v66) fun v67 => (rK (C 113 [v65, v67] h14) fun v68 h69 => (rB (vFa 5 r1.1) fun v70 => (rB (vLd1 h69 v70) fun v71 => (rB (bin .add v71 (.i .u64 1)) fun v72 => (rK (C 85 [x1, v68, v72] h69) fun v73 h74 => (rC (stdy false 1 v70 h14 h69) (rB (vFa 6 r1.1) fun v75 => (rB (vStore h74 1 v75 (.i .i64 7)) fun r76 => (rK62_1 C k r1.1 r2.1 r76.2))))))))))))) (rB (vFa 6 r1.1) fun v77 => (rB (vLd1 h14 v77) fun v78 => (rB (bin .sub v78 (.i .i64 3)) fun v79 => (rB (vFa 0 r1.1) fun v80 => (rB (vLdA h14 2 v80) fun v81 => (rB (vFa 5 r1.1) fun v82 => (rB (vLd1 h14 v82) fun v83 => (rK (C 115 [v81, v83, v79] h14) fun v84 h85 => (rB (vFa 2 r1.1) fun v86 => (rB (vIaa 1 3 v86 v79) fun v87 => (rB (vLd1 h85 v87) fun v88 => (rK (C 85 [x1, v84, v88] h85) fun v89 h90 => (rC (stdy false 1 v87 h14 h85) (rB (vFa 6 r1.1) fun v91 => (rB (vLd1 h90 v91) fun v92 => (rB (bin .add v92 (.i .i64 1)) fun v93 => (rB (vFa 6 r1.1) fun v94 => (rB (vStore h90 1 v94 v93) fun r95 => (rK62_1 C k r1.1 r2.1 r95.2)))))))))))))))))))))))))))))))))))))))))
theorem rp62 (C : Nat → List V → H → Rr) (k : Nat) : dn C k c62 (rQ62 C k) = fun e h => (rK62 C k (e 0) (e 1) h) := by
  refine Eq.trans (rseq_eq (rseq_eq (rseq_eq (rseq_eq (rp62_1 C k) rfl) rfl) rfl) rfl) ?_
  kernel_rfl
def F62 : RF := fun C k a h => match a with
  | [a0, a1] => rK62 C k a0 a1 h
  | _ => none
theorem ro62 : RunOK IP 62 F62 := ⟨ir62, ip62, by kernel_rfl, fun C k a h r e => by
  unfold F62 at e
  split at e
  · exact ⟨by kernel_rfl, (congrFun (congrFun (rp62 C k) _) h).trans e⟩
  · cases e⟩
theorem ip63 : IP 63 = some ir63 := rfl
def rQ63 (C : Nat → List V → H → Rr) (k : Nat) : X → E → H → Rr := Qrr rs63
def rK63 (C : Nat → List V → H → Rr) (k : Nat) (x0 : V) (h : H) : Rr := (rB (vBox x0 h) fun r1 => (rB (vFa 8 r1.1) fun v2 => (rB (vLd1 r1.2 v2) fun v3 => (rS v3 (some ((.tup [(.i .i64 3), (.b true)]), r1.2)) (rB (vFa 6 r1.1) fun v4 => (rB (vLd1 r1.2 v4) fun v5 => (rB (bin .eql v5 (.i .i64 7)) fun v6 => (rS v6 (some ((.tup [(.i .i64 0), (.b true)]), r1.2)) (some ((.tup [(.i .i64 0), (.b false)]), r1.2))))))))))
theorem rp63 (C : Nat → List V → H → Rr) (k : Nat) : dn C k c63 (rQ63 C k) = fun e h => (rK63 C k (e 0) h) := by kernel_rfl
def F63 : RF := fun C k a h => match a with
  | [a0] => rK63 C k a0 h
  | _ => none
theorem ro63 : RunOK IP 63 F63 := ⟨ir63, ip63, by kernel_rfl, fun C k a h r e => by
  unfold F63 at e
  split at e
  · exact ⟨by kernel_rfl, (congrFun (congrFun (rp63 C k) _) h).trans e⟩
  · cases e⟩
theorem ip64 : IP 64 = some ir64 := rfl
def rQ64 (C : Nat → List V → H → Rr) (k : Nat) : X → E → H → Rr := Qrr rs64
def rK64 (C : Nat → List V → H → Rr) (k : Nat) (x0 : V) (h : H) : Rr := (rB (vEqz true .p x0 (.p none)) fun v1 => (rS v1 (rB (vNilc x0) fun v2 => (rB (vFa 1 v2) fun v3 => (rB (vStore h 1 v3 V.nsl) fun r4 => (some ((.tup []), r4.2))))) (some ((.tup []), h))))
theorem rp64 (C : Nat → List V → H → Rr) (k : Nat) : dn C k c64 (rQ64 C k) = fun e h => (rK64 C k (e 0) h) := by kernel_rfl
def F64 : RF := fun C k a h => match a with
  | [a0] => rK64 C k a0 h
  | _ => none
theorem ro64 : RunOK IP 64 F64 := ⟨ir64, ip64, by kernel_rfl, fun C k a h r e => by
  unfold F64 at e
  split at e
  · exact ⟨by kernel_rfl, (congrFun (congrFun (rp64 C k) _) h).trans e⟩
  · cases e⟩
theorem ip83 : IP 83 = some ir83 := rfl
def Q83 [q : Hid (V → H → Prop)] : X → E → H → Prop := Qr rs83 q.un
def K83 (x0 : V) (h : H) [q : Hid (V → H → Prop)] : Prop := @Bnd V (vEqz false .s x0 V.nsl) ⟨fun v1 => @Sel v1 ⟨@Hid.un (V → H → Prop) q V.nsl h⟩ ⟨@Bnd (V × H) (vNewSl 0 [] [] h) ⟨fun r2 => @Bnd (V × H) (vApp 1 8 r2.1 x0 r2.2) ⟨fun r3 => @Hid.un (V → H → Prop) q r3.1 r3.2⟩⟩⟩⟩
theorem p83 [q : Hid (V → H → Prop)] : den IP c83 (@Q83 q) = fun e h => @K83 (e 0) h q := by kernel_rfl
theorem f83 (a0 : V) (h : H) (Q : V → H → Prop) : @wF IP 83 [a0] h ⟨Q⟩ ↔ @K83 a0 h ⟨Q⟩ := (Fnc_den (ip83) (by kernel_rfl) (by kernel_rfl) h Q).trans (iff_of_eq (congrFun (congrFun (@p83 ⟨Q⟩) _) h))
def rQ83 (C : Nat → List V → H → Rr) (k : Nat) : X → E → H → Rr := Qrr rs83
def rK83 (C : Nat → List V → H → Rr) (k : Nat) (x0 : V) (h : H) : Rr := (rB (vEqz false .s x0 V.nsl) fun v1 => (rS v1 (some (V.nsl, h)) (rB (vNewSl 0 [] [] h) fun r2 => (rB (vApp 1 8 r2.1 x0 r2.2) fun r3 => (some (r3.1, r3.2))))))
theorem rp83 (C : Nat → List V → H → Rr) (k : Nat) : dn C k c83 (rQ83 C k) = fun e h => (rK83 C k (e 0) h) := by kernel_rfl
def F83 : RF := fun C k a h => match a with
  | [a0] => rK83 C k a0 h
  | _ => none
theorem ro83 : RunOK IP 83 F83 := ⟨ir83, ip83, by kernel_rfl, fun C k a h r e => by
  unfold F83 at e
  split at e
  · exact ⟨by kernel_rfl, (congrFun (congrFun (rp83 C k) _) h).trans e⟩
  · cases e⟩
theorem ip85 : IP 85 = some ir85 := rfl
def rQ85 (C : Nat → List V → H → Rr) (k : Nat) : X → E → H → Rr := Qrr rs85
def rK85 (C : Nat → List V → H → Rr) (k : Nat) (x0 x1 x2 : V) (h : H) : Rr := (rK (C 129 [x0, x1] h) fun v1 h2 => (rS v1 (rB (vNilc x0) fun v3 => (rB (vFa 0 v3) fun v4 => (rB (vLd1 h2 v4) fun v5 => (rB (vIa 1 v5 x1) fun v6 => (rB (vStore h2 1 v6 x2) fun r7 => (some ((.tup []), r7.2))))))) (some ((.tup []), h2))))
theorem rp85 (C : Nat → List V → H → Rr) (k : Nat) : dn C k c85 (rQ85 C k) = fun e h => (rK85 C k (e 0) (e 1) (e 2) h) := by kernel_rfl
def F85 : RF := fun C k a h => match a with
  | [a0, a1, a2] => rK85 C k a0 a1 a2 h
  | _ => none
theorem ro85 : RunOK IP 85 F85 := ⟨ir85, ip85, by kernel_rfl, fun C k a h r e => by
  unfold F85 at e
  split at e
  · exact ⟨by kernel_rfl, (congrFun (congrFun (rp85 C k) _) h).trans e⟩
  · cases e⟩
theorem ip86 : IP 86 = some ir86 := rfl
def rQ86 (C : Nat → List V → H → Rr) (k : Nat) : X → E → H → Rr := Qrr rs86
def rK86 (C : Nat → List V → H → Rr) (k : Nat) (x0 x1 : V) (h : H) : Rr := (rB (vLdA h 2 (.p (some (11, 0)))) fun v1 => (rB (vLdA h 2 (.p (some (12, 0)))) fun v2 => (rB (foldO max2 x0 [(.i .i64 0)]) fun v3 => (rB (vCvi .u64 v3) fun v4 => (rK (C 108 [v2, (.i .u64 0), v4] h) fun v5 h6 => (rB (foldO max2 x1 [(.i .i64 0)]) fun v7 => (rB (vCvi .u64 v7) fun v8 => (rK (C 108 [v1, v5, v8] h6) fun v9 h10 => (rC (stdy true 2 (.p (some (11, 0))) h h6) (some (v9, h10)))))))))))
theorem rp86 (C : Nat → List V → H → Rr) (k : Nat) : dn C k c86 (rQ86 C k) = fun e h => (rK86 C k (e 0) (e 1) h) := by kernel_rfl
def F86 : RF := fun C k a h => match a with
  | [a0, a1] => rK86 C k a0 a1 h
  | _ => none
theorem ro86 : RunOK IP 86 F86 := ⟨ir86, ip86, by kernel_rfl, fun C k a h r e => by
  unfold F86 at e
  split at e
  · exact ⟨by kernel_rfl, (congrFun (congrFun (rp86 C k) _) h).trans e⟩
  · cases e⟩
theorem ip88 : IP 88 = some ir88 := rfl
def rQ88 (C : Nat → List V → H → Rr) (k : Nat) : X → E → H → Rr := Qrr rs88
def rK88 (C : Nat → List V → H → Rr) (k : Nat) (x0 x1 : V) (h : H) : Rr := (rB (vBox x1 h) fun r1 => (rB (vNilc x0) fun v2 => (rB (vFa 0 v2) fun v3 => (rB (vLd1 r1.2 v3) fun v4 => (rB (vFa 1 r1.1) fun v5 => (rB (vStore r1.2 1 v5 v4) fun r6 => (rB (vNilc x0) fun v7 => (rB (vFa 103 v7) fun v8 => (rB (vLd1 r6.2 v8) fun v9 => (rB (vLdA r6.2 15 r1.1) fun v10 => (rB (vNewSl 1 [(.i .i64 0), (.i .i64 0), (.i .u32 0), (.i .i64 0), (.i .i64 0), (.i .i64 0), (.i .u32 0), (.b false), (.i .i64 0), (.i .u32 0), (.i .i64 0), (.i .i64 0), (.i .i64 0), (.i .u32 0), (.i .i64 0)] [(0, 15, v10)] r6.2) fun r11 => (rB (vApp 15 112 v9 r11.1 r11.2) fun r12 => (rB (vNilc x0) fun v13 => (rB (vFa 103 v13) fun v14 => (rB (vStore r12.2 1 v14 r12.1) fun r15 => (some ((.tup []), r15.2)))))))))))))))))
theorem rp88 (C : Nat → List V → H → Rr) (k : Nat) : dn C k c88 (rQ88 C k) = fun e h => (rK88 C k (e 0) (e 1) h) := by kernel_rfl
def F88 : RF := fun C k a h => match a with
  | [a0, a1] => rK88 C k a0 a1 h
  | _ => none
theorem ro88 : RunOK IP 88 F88 := ⟨ir88, ip88, by kernel_rfl, fun C k a h r e => by
  unfold F88 at e
  split at e
  · exact ⟨by kernel_rfl, (congrFun (congrFun (rp88 C k) _) h).trans e⟩
  · cases e⟩
theorem ip89 : IP 89 = some ir89 := rfl
def rQ89 (C : Nat → List V → H → Rr) (k : Nat) : X → E → H → Rr := Qrr rs89
def rQ89_1 (C : Nat → List V → H → Rr) (k : Nat) : X → E → H → Rr := (rQ89 C k)
def rK89_1 (C : Nat → List V → H → Rr) (k : Nat) (x3 : V) (h : H) : Rr := (some (x3, h))
def rJ89_1 (C : Nat → List V → H → Rr) (k : Nat) : E → H → Rr := fun e h => (rK89_1 C k (e 3) h)
theorem rp89_1 (C : Nat → List V → H → Rr) (k : Nat) : dn C k c89_1 (rQ89_1 C k) = (rJ89_1 C k) := by kernel_rfl
def rR89_2 (C : Nat → List V → H → Rr) (k : Nat) : X → E → H → Rr := (Qbr 0 (Qxr (rJ89_1 C k) (rQ89 C k)))
def rQ89_2 (C : Nat → List V → H → Rr) (k : Nat) (g89_2 : V → V → V → V → H → Rr) : X → E → H → Rr := Qxr (fun e h => g89_2 (e 3) (e 11) (e 12) (e 13) h) (rR89_2 C k)
def rL89_2 (C : Nat → List V → H → Rr) (k : Nat) (g89_2 : V → V → V → V → H → Rr) (x3 x11 x12 x13 : V) (h : H) : Rr := (rB (bin .lss x13 x12) fun v1 => (rS v1 (rB (vIa 1 x11 x13) fun v2 => (rB (vLd1 h v2) fun v3 => (rB (vNilc v3) fun v4 => (rB (vFa 0 v4) fun v5 => (rB (vFa 5 v5) fun v6 => (rB (vLd1 h v6) fun v7 => (rB (vNewSl 1 [(.i .u32 0)] [(0, 1, v7)] h) fun r8 => (rB (vApp 1 4 x3 r8.1 r8.2) fun r9 => (rB (bin .add x13 (.i .i64 1)) fun v10 => (g89_2 r9.1 x11 x12 v10 r9.2)))))))))) (rK89_1 C k x3 h)))
theorem rp89_2 (C : Nat → List V → H → Rr) (k : Nat) (g89_2 : V → V → V → V → H → Rr) : dn C k c89_2 (rQ89_2 C k g89_2) = fun e h => (rL89_2 C k g89_2 (e 3) (e 11) (e 12) (e 13) h) := by kernel_rfl
def rW89_2 (C : Nat → List V → H → Rr) (k : Nat) (x3 x11 x12 x13 : V) (h : H) : Rr := rFix k (fun (g : V × V × V × V × Unit → H → Rr) (x : V × V × V × V × Unit) h => rL89_2 C k (fun y3 y11 y12 y13 h => g (y3, y11, y12, y13, ()) h) x.1 x.2.1 x.2.2.1 x.2.2.2.1 h) (x3, x11, x12, x13, ()) h
theorem rn89_2 (C : Nat → List V → H → Rr) (k : Nat) : ∀ g : V × V × V × V × Unit → H → Rr, dn C k c89_2 (Qxr (fun e h => g ((fun e : E => ((e 3, e 11, e 12, e 13, ()) : V × V × V × V × Unit)) e) h) (rR89_2 C k)) = fun e h => (fun (g : V × V × V × V × Unit → H → Rr) (x : V × V × V × V × Unit) h => rL89_2 C k (fun y3 y11 y12 y13 h => g (y3, y11, y12, y13, ()) h) x.1 x.2.1 x.2.2.1 x.2.2.2.1 h) g ((fun e : E => ((e 3, e 11, e 12, e 13, ()) : V × V × V × V × Unit)) e) h := fun g => rp89_2 C k (fun y3 y11 y12 y13 h => g (y3, y11, y12, y13, ()) h)
theorem rw89_2 (C : Nat → List V → H → Rr) (k : Nat) : dn C k (.loop c89_2) (rR89_2 C k) = fun e h => (rW89_2 C k (e 3) (e 11) (e 12) (e 13) h) := rloop_eq (fun e : E => ((e 3, e 11, e 12, e 13, ()) : V × V × V × V × Unit)) (fun (g : V × V × V × V × Unit → H → Rr) (x : V × V × V × V × Unit) h => rL89_2 C k (fun y3 y11 y12 y13 h => g (y3, y11, y12, y13, ()) h) x.1 x.2.1 x.2.2.1 x.2.2.2.1 h) (rn89_2 C k)
def rK89 (C : Nat → List V → H → Rr) (k : Nat) (x0 : V) (h : H) : Rr := (rB (vEqz false .p x0 (.p none)) fun v1 => (rS v1 (some (V.nsl, h)) (rB (vNilc x0) fun v2 => (rB (vFa 1 v2) fun v3 => (rB (vLd1 h v3) fun v4 => (rB (vLens v4) fun v5 => (rW89_2 C k V.nsl v4 v5 (.i .i64 0) h)))))))
theorem rp89 (C : Nat → List V → H → Rr) (k : Nat) : dn C k c89 (rQ89 C k) = fun e h => (rK89 C k (e 0) h) := by
  refine Eq.trans (rseq_eq (rseq_eq (rseq_eq (rseq_eq (rp89_1 C k) (rseq_eq (rblock_eq (rw89_2 C k)) rfl)) rfl) rfl) rfl) ?_
  kernel_rfl
def F89 : RF := fun C k a h => match a with
  | [a0] => rK89 C k a0 h
  | _ => none
theorem ro89 : RunOK IP 89 F89 := ⟨ir89, ip89, by kernel_rfl, fun C k a h r e => by
  unfold F89 at e
  split at e
  · exact ⟨by kernel_rfl, (congrFun (congrFun (rp89 C k) _) h).trans e⟩
  · cases e⟩
theorem ip90 : IP 90 = some ir90 := rfl
def rQ90 (C : Nat → List V → H → Rr) (k : Nat) : X → E → H → Rr := Qrr rs90
def rK90 (C : Nat → List V → H → Rr) (k : Nat) (x0 x1 : V) (h : H) : Rr := (rB (vBox x1 h) fun r1 => (rB (vEqz false .p x0 (.p none)) fun v2 => (rS v2 (some ((.p none), r1.2)) (rB (vNilc x0) fun v3 => (rB (vFa 1 v3) fun v4 => (rB (vLd1 r1.2 v4) fun v5 => (rB (some (.fn 131 [r1.1])) fun v6 => (rK (C 130 [v5, v6] r1.2) fun v7 h8 => (rB (bin .lss v7 (.i .i64 0)) fun v9 => (rS v9 (some ((.p none), h8)) (rB (vNilc x0) fun v10 => (rB (vFa 1 v10) fun v11 => (rB (vLd1 h8 v11) fun v12 => (rB (vIa 1 v12 v7) fun v13 => (rB (vLd1 h8 v13) fun v14 => (some (v14, h8)))))))))))))))))
theorem rp90 (C : Nat → List V → H → Rr) (k : Nat) : dn C k c90 (rQ90 C k) = fun e h => (rK90 C k (e 0) (e 1) h) := by kernel_rfl
def F90 : RF := fun C k a h => match a with
  | [a0, a1] => rK90 C k a0 a1 h
  | _ => none
theorem ro90 : RunOK IP 90 F90 := ⟨ir90, ip90, by kernel_rfl, fun C k a h r e => by
  unfold F90 at e
  split at e
  · exact ⟨by kernel_rfl, (congrFun (congrFun (rp90 C k) _) h).trans e⟩
  · cases e⟩
theorem ip91 : IP 91 = some ir91 := rfl
def rQ91 (C : Nat → List V → H → Rr) (k : Nat) : X → E → H → Rr := Qrr rs91
def rK91 (C : Nat → List V → H → Rr) (k : Nat) (x0 : V) (h : H) : Rr := (rB (vEqz false .p x0 (.p none)) fun v1 => (rS v1 (some ((.i .i64 0), h)) (rB (vNilc x0) fun v2 => (rB (vFa 3 v2) fun v3 => (rB (vLd1 h v3) fun v4 => (some (v4, h)))))))
theorem rp91 (C : Nat → List V → H → Rr) (k : Nat) : dn C k c91 (rQ91 C k) = fun e h => (rK91 C k (e 0) h) := by kernel_rfl
def F91 : RF := fun C k a h => match a with
  | [a0] => rK91 C k a0 h
  | _ => none
theorem ro91 : RunOK IP 91 F91 := ⟨ir91, ip91, by kernel_rfl, fun C k a h r e => by
  unfold F91 at e
  split at e
  · exact ⟨by kernel_rfl, (congrFun (congrFun (rp91 C k) _) h).trans e⟩
  · cases e⟩
theorem ip92 : IP 92 = some ir92 := rfl
def Q92 [q : Hid (V → H → Prop)] : X → E → H → Prop := Qr rs92 q.un
def K92 (x0 x1 : V) (h : H) [q : Hid (V → H → Prop)] : Prop := @wF IP 132 [x0, x1] h ⟨fun v1 h2 => @Bnd V (bin .geq v1 (.i .i64 0)) ⟨fun v3 => @Hid.un (V → H → Prop) q v3 h2⟩⟩
theorem p92 [q : Hid (V → H → Prop)] : den IP c92 (@Q92 q) = fun e h => @K92 (e 0) (e 1) h q := by kernel_rfl
theorem f92 (a0 a1 : V) (h : H) (Q : V → H → Prop) : @wF IP 92 [a0, a1] h ⟨Q⟩ ↔ @K92 a0 a1 h ⟨Q⟩ := (Fnc_den (ip92) (by kernel_rfl) (by kernel_rfl) h Q).trans (iff_of_eq (congrFun (congrFun (@p92 ⟨Q⟩) _) h))
theorem ip93 : IP 93 = some ir93 := rfl
def Q93 [q : Hid (V → H → Prop)] : X → E → H → Prop := Qr rs93 q.un
def K93 (x0 x1 : V) (h : H) [q : Hid (V → H → Prop)] : Prop := @Bnd V (vLd1 h x1) ⟨fun v1 => @Bnd V (vNilc v1) ⟨fun v2 => @Bnd V (vFa 29 v2) ⟨fun v3 => @Bnd V (vLd1 h v3) ⟨fun v4 => @wF IP 90 [v4, x0] h ⟨fun v5 h6 => @Bnd V (vNilc v5) ⟨fun v7 => @Bnd V (vFa 21 v7) ⟨fun v8 => @Bnd V (vLd1 h6 v8) ⟨fun v9 => @Hid.un (V → H → Prop) q v9 h6⟩⟩⟩⟩⟩⟩⟩⟩
theorem p93 [q : Hid (V → H → Prop)] : den IP c93 (@Q93 q) = fun e h => @K93 (e 0) (e 1) h q := by kernel_rfl
theorem f93 (a0 a1 : V) (h : H) (Q : V → H → Prop) : @wF IP 93 [a0, a1] h ⟨Q⟩ ↔ @K93 a0 a1 h ⟨Q⟩ := (Fnc_den (ip93) (by kernel_rfl) (by kernel_rfl) h Q).trans (iff_of_eq (congrFun (congrFun (@p93 ⟨Q⟩) _) h))
theorem ip94 : IP 94 = some ir94 := rfl
def Q94 [q : Hid (V → H → Prop)] : X → E → H → Prop := Qr rs94 q.un
def K94 (x0 : V) (h : H) [q : Hid (V → H → Prop)] : Prop := @Bnd (V × H) (vBox x0 h) ⟨fun r1 => @Bnd V (vLdA r1.2 3 r1.1) ⟨fun v2 => @wF IP 133 [v2] r1.2 ⟨fun v3 h4 => @Bnd V (un .not v3) ⟨fun v5 => @Sel v5 ⟨@Hid.un (V → H → Prop) q (.p none) h4⟩ ⟨@Bnd V (vLdA h4 3 r1.1) ⟨fun v6 => @Bnd V (vFa 1 r1.1) ⟨fun v7 => @Bnd V (vLd1 h4 v7) ⟨fun v8 => @wF IP 134 [v8] h4 ⟨fun v9 h10 => @Bnd V (vBld [(.i .i64 0), (.i .i64 0), (.i .i64 0), (.p none), (.b false), (.b false), (.b false), (.b false), (.b false), (.b false), (.b false), (.b false), (.b false), (.b false), (.b false), (.b false), (.b false), (.b false), (.b false), (.b false), (.i .i64 0)] [(0, 3, v6), (3, 1, v9)]) ⟨fun v11 => @Bnd (V × H) (vBox v11 h10) ⟨fun r12 => @Chk (stdy true 3 r1.1 h4 h10) ⟨@Hid.un (V → H → Prop) q r12.1 r12.2⟩⟩⟩⟩⟩⟩⟩⟩⟩⟩⟩⟩
theorem p94 [q : Hid (V → H → Prop)] : den IP c94 (@Q94 q) = fun e h => @K94 (e 0) h q := by kernel_rfl
theorem f94 (a0 : V) (h : H) (Q : V → H → Prop) : @wF IP 94 [a0] h ⟨Q⟩ ↔ @K94 a0 h ⟨Q⟩ := (Fnc_den (ip94) (by kernel_rfl) (by kernel_rfl) h Q).trans (iff_of_eq (congrFun (congrFun (@p94 ⟨Q⟩) _) h))
def rQ94 (C : Nat → List V → H → Rr) (k : Nat) : X → E → H → Rr := Qrr rs94
def rK94 (C : Nat → List V → H → Rr) (k : Nat) (x0 : V) (h : H) : Rr := (rB (vBox x0 h) fun r1 => (rB (vLdA r1.2 3 r1.1) fun v2 => (rK (C 133 [v2] r1.2) fun v3 h4 => (rB (un .not v3) fun v5 => (rS v5 (some ((.p none), h4)) (rB (vLdA h4 3 r1.1) fun v6 => (rB (vFa 1 r1.1) fun v7 => (rB (vLd1 h4 v7) fun v8 => (rK (C 134 [v8] h4) fun v9 h10 => (rB (vBld [(.i .i64 0), (.i .i64 0), (.i .i64 0), (.p none), (.b false), (.b false), (.b false), (.b false), (.b false), (.b false), (.b false), (.b false), (.b false), (.b false), (.b false), (.b false), (.b false), (.b false), (.b false), (.b false), (.i .i64 0)] [(0, 3, v6), (3, 1, v9)]) fun v11 => (rB (vBox v11 h10) fun r12 => (rC (stdy true 3 r1.1 h4 h10) (some (r12.1, r12.2))))))))))))))
theorem rp94 (C : Nat → List V → H → Rr) (k : Nat) : dn C k c94 (rQ94 C k) = fun e h => (rK94 C k (e 0) h) := by kernel_rfl
def F94 : RF := fun C k a h => match a with
  | [a0] => rK94 C k a0 h
  | _ => none
theorem ro94 : RunOK IP 94 F94 := ⟨ir94, ip94, by kernel_rfl, fun C k a h r e => by
  unfold F94 at e
  split at e
  · exact ⟨by kernel_rfl, (congrFun (congrFun (rp94 C k) _) h).trans e⟩
  · cases e⟩
theorem ip95 : IP 95 = some ir95 := rfl
def Q95 [q : Hid (V → H → Prop)] : X → E → H → Prop := Qr rs95 q.un
def K95 (x0 : V) (h : H) [q : Hid (V → H → Prop)] : Prop := @Bnd V (foldO max2 x0 [(.i .i64 0)]) ⟨fun v1 => @Bnd V (foldO min2 v1 [(.i .i64 32)]) ⟨fun v2 => @Bnd V (vBld [(.i .i64 0), .nsl] [(0, 1, v2)]) ⟨fun v3 => @Bnd (V × H) (vBox v3 h) ⟨fun r4 => @Hid.un (V → H → Prop) q r4.1 r4.2⟩⟩⟩⟩
theorem p95 [q : Hid (V → H → Prop)] : den IP c95 (@Q95 q) = fun e h => @K95 (e 0) h q := by kernel_rfl
theorem f95 (a0 : V) (h : H) (Q : V → H → Prop) : @wF IP 95 [a0] h ⟨Q⟩ ↔ @K95 a0 h ⟨Q⟩ := (Fnc_den (ip95) (by kernel_rfl) (by kernel_rfl) h Q).trans (iff_of_eq (congrFun (congrFun (@p95 ⟨Q⟩) _) h))
def rQ95 (C : Nat → List V → H → Rr) (k : Nat) : X → E → H → Rr := Qrr rs95
def rK95 (C : Nat → List V → H → Rr) (k : Nat) (x0 : V) (h : H) : Rr := (rB (foldO max2 x0 [(.i .i64 0)]) fun v1 => (rB (foldO min2 v1 [(.i .i64 32)]) fun v2 => (rB (vBld [(.i .i64 0), .nsl] [(0, 1, v2)]) fun v3 => (rB (vBox v3 h) fun r4 => (some (r4.1, r4.2))))))
theorem rp95 (C : Nat → List V → H → Rr) (k : Nat) : dn C k c95 (rQ95 C k) = fun e h => (rK95 C k (e 0) h) := by kernel_rfl
def F95 : RF := fun C k a h => match a with
  | [a0] => rK95 C k a0 h
  | _ => none
theorem ro95 : RunOK IP 95 F95 := ⟨ir95, ip95, by kernel_rfl, fun C k a h r e => by
  unfold F95 at e
  split at e
  · exact ⟨by kernel_rfl, (congrFun (congrFun (rp95 C k) _) h).trans e⟩
  · cases e⟩
theorem ip96 : IP 96 = some ir96 := rfl
def Q96 [q : Hid (V → H → Prop)] : X → E → H → Prop := Qr rs96 q.un
def K96 (x0 x1 : V) (h : H) [q : Hid (V → H → Prop)] : Prop := @Bnd V (foldO max2 x0 [(.i .i64 0)]) ⟨fun v1 => @Bnd V (foldO min2 v1 [(.i .i64 64)]) ⟨fun v2 => @Bnd V (foldO max2 x1 [(.i .i64 0)]) ⟨fun v3 => @Bnd V (foldO min2 v3 [(.i .i64 64)]) ⟨fun v4 => @Bnd V (vBld [(.i .i64 0), (.i .i64 0), (.i .i64 0), (.i .i64 0), (.i .i64 0), (.i .i64 0), (.i .i64 0)] [(0, 1, v2), (1, 1, v4)]) ⟨fun v5 => @Bnd (V × H) (vBox v5 h) ⟨fun r6 => @Hid.un (V → H → Prop) q r6.1 r6.2⟩⟩⟩⟩⟩⟩
theorem p96 [q : Hid (V → H → Prop)] : den IP c96 (@Q96 q) = fun e h => @K96 (e 0) (e 1) h q := by kernel_rfl
theorem f96 (a0 a1 : V) (h : H) (Q : V → H → Prop) : @wF IP 96 [a0, a1] h ⟨Q⟩ ↔ @K96 a0 a1 h ⟨Q⟩ := (Fnc_den (ip96) (by kernel_rfl) (by kernel_rfl) h Q).trans (iff_of_eq (congrFun (congrFun (@p96 ⟨Q⟩) _) h))
def rQ96 (C : Nat → List V → H → Rr) (k : Nat) : X → E → H → Rr := Qrr rs96
def rK96 (C : Nat → List V → H → Rr) (k : Nat) (x0 x1 : V) (h : H) : Rr := (rB (foldO max2 x0 [(.i .i64 0)]) fun v1 => (rB (foldO min2 v1 [(.i .i64 64)]) fun v2 => (rB (foldO max2 x1 [(.i .i64 0)]) fun v3 => (rB (foldO min2 v3 [(.i .i64 64)]) fun v4 => (rB (vBld [(.i .i64 0), (.i .i64 0), (.i .i64 0), (.i .i64 0), (.i .i64 0), (.i .i64 0), (.i .i64 0)] [(0, 1, v2), (1, 1, v4)]) fun v5 => (rB (vBox v5 h) fun r6 => (some (r6.1, r6.2))))))))
theorem rp96 (C : Nat → List V → H → Rr) (k : Nat) : dn C k c96 (rQ96 C k) = fun e h => (rK96 C k (e 0) (e 1) h) := by kernel_rfl
def F96 : RF := fun C k a h => match a with
  | [a0, a1] => rK96 C k a0 a1 h
  | _ => none
theorem ro96 : RunOK IP 96 F96 := ⟨ir96, ip96, by kernel_rfl, fun C k a h r e => by
  unfold F96 at e
  split at e
  · exact ⟨by kernel_rfl, (congrFun (congrFun (rp96 C k) _) h).trans e⟩
  · cases e⟩
theorem ip97 : IP 97 = some ir97 := rfl
def Q97 [q : Hid (V → H → Prop)] : X → E → H → Prop := Qr rs97 q.un
def K97 (x0 : V) (h : H) [q : Hid (V → H → Prop)] : Prop := @Bnd (V × H) (vBox x0 h) ⟨fun r1 => @Bnd V (vFa 1 r1.1) ⟨fun v2 => @Bnd V (vLd1 r1.2 v2) ⟨fun v3 => @wF IP 135 [v3] r1.2 ⟨fun v4 h5 => @Bnd V (vFa 2 r1.1) ⟨fun v6 => @Bnd V (vLd1 h5 v6) ⟨fun v7 => @wF IP 135 [v7] h5 ⟨fun v8 h9 => @Bnd V (vFa 3 r1.1) ⟨fun v10 => @Bnd V (vLd1 h9 v10) ⟨fun v11 => @wF IP 135 [v11] h9 ⟨fun v12 h13 => @Bnd V (vFa 1 r1.1) ⟨fun v14 => @Bnd (V × H) (vStore h13 1 v14 v4) ⟨fun r15 => @Bnd V (vFa 2 r1.1) ⟨fun v16 => @Bnd (V × H) (vStore r15.2 1 v16 v8) ⟨fun r17 => @Bnd V (vFa 3 r1.1) ⟨fun v18 => @Bnd (V × H) (vStore r17.2 1 v18 v12) ⟨fun r19 => @Chk (stdy false 1 v6 r1.2 h5) ⟨@Chk (stdy false 1 v10 r1.2 h5) ⟨@Chk (stdy false 1 v10 h5 h9) ⟨@Bnd V (vLdA r19.2 6 r1.1) ⟨fun v20 => @Bnd V (vFa 3 r1.1) ⟨fun v21 => @Bnd V (vLd1 r19.2 v21) ⟨fun v22 => @Bnd V (vBld [(.i .i64 0), (.i .i64 0), (.i .i64 0), (.i .i64 0), (.i .i64 0), (.i .i64 0), (.i .i64 0)] [(0, 6, v20), (6, 1, v22)]) ⟨fun v23 => @Bnd (V × H) (vBox v23 r19.2) ⟨fun r24 => @Hid.un (V → H → Prop) q r24.1 r24.2⟩⟩⟩⟩⟩⟩⟩⟩⟩⟩⟩⟩⟩⟩⟩⟩⟩⟩⟩⟩⟩⟩⟩⟩
theorem p97 [q : Hid (V → H → Prop)] : den IP c97 (@Q97 q) = fun e h => @K97 (e 0) h q := by kernel_rfl
theorem f97 (a0 : V) (h : H) (Q : V → H → Prop) : @wF IP 97 [a0] h ⟨Q⟩ ↔ @K97 a0 h ⟨Q⟩ := (Fnc_den (ip97) (by kernel_rfl) (by kernel_rfl) h Q).trans (iff_of_eq (congrFun (congrFun (@p97 ⟨Q⟩) _) h))
def rQ97 (C : Nat → List V → H → Rr) (k : Nat) : X → E → H → Rr := Qrr rs97
def rK97 (C : Nat → List V → H → Rr) (k : Nat) (x0 : V) (h : H) : Rr := (rB (vBox x0 h) fun r1 => (rB (vFa 1 r1.1) fun v2 => (rB (vLd1 r1.2 v2) fun v3 => (rK (C 135 [v3] r1.2) fun v4 h5 => (rB (vFa 2 r1.1) fun v6 => (rB (vLd1 h5 v6) fun v7 => (rK (C 135 [v7] h5) fun v8 h9 => (rB (vFa 3 r1.1) fun v10 => (rB (vLd1 h9 v10) fun v11 => (rK (C 135 [v11] h9) fun v12 h13 => (rB (vFa 1 r1.1) fun v14 => (rB (vStore h13 1 v14 v4) fun r15 => (rB (vFa 2 r1.1) fun v16 => (rB (vStore r15.2 1 v16 v8) fun r17 => (rB (vFa 3 r1.1) fun v18 => (rB (vStore r17.2 1 v18 v12) fun r19 => (rC (stdy false 1 v6 r1.2 h5) (rC (stdy false 1 v10 r1.2 h5) (rC (stdy false 1 v10 h5 h9) (rB (vLdA r19.2 6 r1.1) fun v20 => (rB (vFa 3 r1.1) fun v21 => (rB (vLd1 r19.2 v21) fun v22 => (rB (vBld [(.i .i64 0), (.i .i64 0), (.i .i64 0), (.i .i64 0), (.i .i64 0), (.i .i64 0), (.i .i64 0)] [(0, 6, v20), (6, 1, v22)]) fun v23 => (rB (vBox v23 r19.2) fun r24 => (some (r24.1, r24.2))))))))))))))))))))))))))
theorem rp97 (C : Nat → List V → H → Rr) (k : Nat) : dn C k c97 (rQ97 C k) = fun e h => (rK97 C k (e 0) h) := by kernel_rfl
def F97 : RF := fun C k a h => match a with
  | [a0] => rK97 C k a0 h
  | _ => none
theorem ro97 : RunOK IP 97 F97 := ⟨ir97, ip97, by kernel_rfl, fun C k a h r e => by
  unfold F97 at e
  split at e
  · exact ⟨by kernel_rfl, (congrFun (congrFun (rp97 C k) _) h).trans e⟩
  · cases e⟩
theorem ip98 : IP 98 = some ir98 := rfl
def Q98 [q : Hid (V → H → Prop)] : X → E → H → Prop := Qr rs98 q.un
def K98 (x0 : V) (h : H) [q : Hid (V → H → Prop)] : Prop := @Bnd V (foldO max2 x0 [(.i .i64 1)]) ⟨fun v1 => @Bnd V (foldO min2 v1 [(.i .i64 4)]) ⟨fun v2 => @Bnd V (bin .add (.i .i64 2) v2) ⟨fun v3 => @Bnd V (vBld [(.i .i64 0), (.i .i64 0), .nsl] [(0, 1, v3)]) ⟨fun v4 => @Bnd (V × H) (vBox v4 h) ⟨fun r5 => @Hid.un (V → H → Prop) q r5.1 r5.2⟩⟩⟩⟩⟩
theorem p98 [q : Hid (V → H → Prop)] : den IP c98 (@Q98 q) = fun e h => @K98 (e 0) h q := by kernel_rfl
theorem f98 (a0 : V) (h : H) (Q : V → H → Prop) : @wF IP 98 [a0] h ⟨Q⟩ ↔ @K98 a0 h ⟨Q⟩ := (Fnc_den (ip98) (by kernel_rfl) (by kernel_rfl) h Q).trans (iff_of_eq (congrFun (congrFun (@p98 ⟨Q⟩) _) h))
def rQ98 (C : Nat → List V → H → Rr) (k : Nat) : X → E → H → Rr := Qrr rs98
def rK98 (C : Nat → List V → H → Rr) (k : Nat) (x0 : V) (h : H) : Rr := (rB (foldO max2 x0 [(.i .i64 1)]) fun v1 => (rB (foldO min2 v1 [(.i .i64 4)]) fun v2 => (rB (bin .add (.i .i64 2) v2) fun v3 => (rB (vBld [(.i .i64 0), (.i .i64 0), .nsl] [(0, 1, v3)]) fun v4 => (rB (vBox v4 h) fun r5 => (some (r5.1, r5.2)))))))
theorem rp98 (C : Nat → List V → H → Rr) (k : Nat) : dn C k c98 (rQ98 C k) = fun e h => (rK98 C k (e 0) h) := by kernel_rfl
def F98 : RF := fun C k a h => match a with
  | [a0] => rK98 C k a0 h
  | _ => none
theorem ro98 : RunOK IP 98 F98 := ⟨ir98, ip98, by kernel_rfl, fun C k a h r e => by
  unfold F98 at e
  split at e
  · exact ⟨by kernel_rfl, (congrFun (congrFun (rp98 C k) _) h).trans e⟩
  · cases e⟩
theorem ip99 : IP 99 = some ir99 := rfl
def Q99 [q : Hid (V → H → Prop)] : X → E → H → Prop := Qr rs99 q.un
def K99 (x0 : V) (h : H) [q : Hid (V → H → Prop)] : Prop := @Bnd (V × H) (vBox x0 h) ⟨fun r1 => @Bnd V (vFa 2 r1.1) ⟨fun v2 => @Bnd V (vLd1 r1.2 v2) ⟨fun v3 => @Bnd V (foldO max2 v3 [(.i .i64 1)]) ⟨fun v4 => @Bnd V (vFa 3 r1.1) ⟨fun v5 => @Bnd V (vLd1 r1.2 v5) ⟨fun v6 => @Bnd V (foldO max2 v6 [(.i .i64 1)]) ⟨fun v7 => @Bnd V (foldO min2 v7 [(.i .i64 100)]) ⟨fun v8 => @Bnd V (vFa 5 r1.1) ⟨fun v9 => @Bnd V (vLd1 r1.2 v9) ⟨fun v10 => @Bnd V (foldO max2 v10 [(.i .i64 1)]) ⟨fun v11 => @Bnd V (vFa 2 r1.1) ⟨fun v12 => @Bnd (V × H) (vStore r1.2 1 v12 v4) ⟨fun r13 => @Bnd V (vFa 3 r1.1) ⟨fun v14 => @Bnd (V × H) (vStore r13.2 1 v14 v8) ⟨fun r15 => @Bnd V (vFa 5 r1.1) ⟨fun v16 => @Bnd (V × H) (vStore r15.2 1 v16 v11) ⟨fun r17 => @Bnd V (vFa 4 r1.1) ⟨fun v18 => @Bnd V (vLd1 r17.2 v18) ⟨fun v19 => @wF IP 136 [v19] r17.2 ⟨fun v20 h21 => @Bnd V (foldO max2 v20 [(.i .i64 1)]) ⟨fun v22 => @Bnd V (vFa 4 r1.1) ⟨fun v23 => @Bnd (V × H) (vStore h21 1 v23 v22) ⟨fun r24 => @Bnd V (vLdA r24.2 6 r1.1) ⟨fun v25 => @Bnd V (vFa 0 r1.1) ⟨fun v26 => @Bnd V (vLd1 r24.2 v26) ⟨fun v27 => @Bnd V (vFa 1 r1.1) ⟨fun v28 => @Bnd V (vLd1 r24.2 v28) ⟨fun v29 => @wF IP 137 [v27, v29] r24.2 ⟨fun v30 h31 => @Bnd V (vBld [(.i .i64 0), (.i .i64 0), (.i .i64 0), (.i .i64 0), (.i .i64 0), (.i .i64 0), (.p none), (.i .i64 0), (.i .i64 0), (.i .i64 0), (.i .i64 0)] [(0, 6, v25), (6, 1, v30)]) ⟨fun v32 => @Bnd (V × H) (vBox v32 h31) ⟨fun r33 => @Chk (stdy true 6 r1.1 r24.2 h31) ⟨@Hid.un (V → H → Prop) q r33.1 r33.2⟩⟩⟩⟩⟩⟩⟩⟩⟩⟩⟩⟩⟩⟩⟩⟩⟩⟩⟩⟩⟩⟩⟩⟩⟩⟩⟩⟩⟩⟩⟩⟩
theorem p99 [q : Hid (V → H → Prop)] : den IP c99 (@Q99 q) = fun e h => @K99 (e 0) h q := by kernel_rfl
theorem f99 (a0 : V) (h : H) (Q : V → H → Prop) : @wF IP 99 [a0] h ⟨Q⟩ ↔ @K99 a0 h ⟨Q⟩ := (Fnc_den (ip99) (by kernel_rfl) (by kernel_rfl) h Q).trans (iff_of_eq (congrFun (congrFun (@p99 ⟨Q⟩) _) h))
def rQ99 (C : Nat → List V → H → Rr) (k : Nat) : X → E → H → Rr := Qrr rs99
def rK99 (C : Nat → List V → H → Rr) (k : Nat) (x0 : V) (h : H) : Rr := (rB (vBox x0 h) fun r1 => (rB (vFa 2 r1.1) fun v2 => (rB (vLd1 r1.2 v2) fun v3 => (rB (foldO max2 v3 [(.i .i64 1)]) fun v4 => (rB (vFa 3 r1.1) fun v5 => (rB (vLd1 r1.2 v5) fun v6 => (rB (foldO max2 v6 [(.i .i64 1)]) fun v7 => (rB (foldO min2 v7 [(.i .i64 100)]) fun v8 => (rB (vFa 5 r1.1) fun v9 => (rB (vLd1 r1.2 v9) fun v10 => (rB (foldO max2 v10 [(.i .i64 1)]) fun v11 => (rB (vFa 2 r1.1) fun v12 => (rB (vStore r1.2 1 v12 v4) fun r13 => (rB (vFa 3 r1.1) fun v14 => (rB (vStore r13.2 1 v14 v8) fun r15 => (rB (vFa 5 r1.1) fun v16 => (rB (vStore r15.2 1 v16 v11) fun r17 => (rB (vFa 4 r1.1) fun v18 => (rB (vLd1 r17.2 v18) fun v19 => (rK (C 136 [v19] r17.2) fun v20 h21 => (rB (foldO max2 v20 [(.i .i64 1)]) fun v22 => (rB (vFa 4 r1.1) fun v23 => (rB (vStore h21 1 v23 v22) fun r24 => (rB (vLdA r24.2 6 r1.1) fun v25 => (rB (vFa 0 r1.1) fun v26 => (rB (vLd1 r24.2 v26) fun v27 => (rB (vFa 1 r1.1) fun v28 => (rB (vLd1 r24.2 v28) fun v29 => (rK (C 137 [v27, v29] r24.2) fun v30 h31 => (rB (vBld [(.i .i64 0), (.i .i64 0), (.i .i64 0), (.i .i64 0), (.i .i64 0), (.i .i64 0), (.p none), (.i .i64 0), (.i .i64 0), (.i .i64 0), (.i .i64 0)] [(0, 6, v25), (6, 1, v30)]) fun v32 => (rB (vBox v32 h31) fun r33 => (rC (stdy true 6 r1.1 r24.2 h31) (some (r33.1, r33.2))))))))))))))))))))))))))))))))))
theorem rp99 (C : Nat → List V → H → Rr) (k : Nat) : dn C k c99 (rQ99 C k) = fun e h => (rK99 C k (e 0) h) := by kernel_rfl
def F99 : RF := fun C k a h => match a with
  | [a0] => rK99 C k a0 h
  | _ => none
theorem ro99 : RunOK IP 99 F99 := ⟨ir99, ip99, by kernel_rfl, fun C k a h r e => by
  unfold F99 at e
  split at e
  · exact ⟨by kernel_rfl, (congrFun (congrFun (rp99 C k) _) h).trans e⟩
  · cases e⟩
theorem ip101 : IP 101 = some ir101 := rfl
def rQ101 (C : Nat → List V → H → Rr) (k : Nat) : X → E → H → Rr := Qrr rs101
def rQ101_1 (C : Nat → List V → H → Rr) (k : Nat) : X → E → H → Rr := (rQ101 C k)
def rK101_1 (C : Nat → List V → H → Rr) (k : Nat) (h : H) : Rr := (some ((.b true), h))
def rJ101_1 (C : Nat → List V → H → Rr) (k : Nat) : E → H → Rr := fun e h => (rK101_1 C k h)
theorem rp101_1 (C : Nat → List V → H → Rr) (k : Nat) : dn C k c101_1 (rQ101_1 C k) = (rJ101_1 C k) := by kernel_rfl
def rQ101_2 (C : Nat → List V → H → Rr) (k : Nat) : X → E → H → Rr := (Qbr 0 (Qxr (rJ101_1 C k) (rQ101 C k)))
def rK101_2 (C : Nat → List V → H → Rr) (k : Nat) (x0 x1 x2 x51 : V) (h : H) : Rr := (rS x51 (rK (C 145 [x0, x1, x2] h) fun v1 h2 => (rK101_1 C k h2)) (rK (C 146 [x0, x1, x2] h) fun v3 h4 => (rK101_1 C k h4)))
def rJ101_2 (C : Nat → List V → H → Rr) (k : Nat) : E → H → Rr := fun e h => (rK101_2 C k (e 0) (e 1) (e 2) (e 51) h)
theorem rp101_2 (C : Nat → List V → H → Rr) (k : Nat) : dn C k c101_2 (rQ101_2 C k) = (rJ101_2 C k) := by kernel_rfl
def rK101 (C : Nat → List V → H → Rr) (k : Nat) (x0 x1 x2 : V) (h : H) : Rr := (rB (vNilc x0) fun v1 => (rB (vFa 35 v1) fun v2 => (rB (vFa 0 v2) fun v3 => (rB (vLd1 h v3) fun v4 => (rB (bin .eql v4 (.i .i64 0)) fun v5 => (rS v5 (some ((.b false), h)) (rB (bin .eql v4 (.i .i64 1)) fun v6 => (rS v6 (rK (C 142 [x0, x2] h) fun v7 h8 => (rK101_1 C k h8)) (rB (bin .eql v4 (.i .i64 2)) fun v9 => (rS v9 (rB (vNilc x0) fun v10 => (rB (vFa 28 v10) fun v11 => (rB (vLd1 h v11) fun v12 => (rB (vNilc x0) fun v13 => (rB (vFa 35 v13) fun v14 => (rB (vFa 8 v14) fun v15 => (rB (vLd1 h v15) fun v16 => (rK (C 143 [v12, v16] h) fun v17 h18 => (rK (C 110 [x1, v17] h18) fun v19 h20 => (rB (vNilc x0) fun v21 => (rB (vFa 35 v21) fun v22 => (rB (vFa 9 v22) fun v23 => (rB (vStore h20 1 v23 v19) fun r24 => (rB (vNilc x0) fun v25 => (rB (vFa 35 v25) fun v26 => (rB (vFa 0 v26) fun v27 => (rB (vStore r24.2 1 v27 (.i .i64 3)) fun r28 => (rK101_1 C k r28.2)))))))))))))))))) (rB (bin .eql v4 (.i .i64 3)) fun v29 => (rS v29 (rK (C 144 [x0, x1, x2] h) fun v30 h31 => (rK101_1 C k h31)) (rB (bin .eql v4 (.i .i64 4)) fun v32 => (rS v32 (rK101_2 C k x0 x1 x2 v32 h) (rB (bin .eql v4 (.i .i64 5)) fun v33 => (rK101_2 C k x0 x1 x2 v33 h))))))))))))))))
theorem rp101 (C : Nat → List V → H → Rr) (k : Nat) : dn C k c101 (rQ101 C k) = fun e h => (rK101 C k (e 0) (e 1) (e 2) h) := by
  refine Eq.trans (rseq_eq (rseq_eq (rp101_1 C k) (rseq_eq (rblock_eq (rseq_eq (rcond_eq rfl (rseq_eq (rcond_eq rfl (rseq_eq (rcond_eq rfl (rseq_eq (rcond_eq rfl (rseq_eq (rp101_2 C k) rfl)) rfl)) rfl)) rfl)) rfl)) rfl)) rfl) ?_
  kernel_rfl
def F101 : RF := fun C k a h => match a with
  | [a0, a1, a2] => rK101 C k a0 a1 a2 h
  | _ => none
theorem ro101 : RunOK IP 101 F101 := ⟨ir101, ip101, by kernel_rfl, fun C k a h r e => by
  unfold F101 at e
  split at e
  · exact ⟨by kernel_rfl, (congrFun (congrFun (rp101 C k) _) h).trans e⟩
  · cases e⟩
theorem ip102 : IP 102 = some ir102 := rfl
def Q102 [q : Hid (V → H → Prop)] : X → E → H → Prop := Qr rs102 q.un
def Q102_1 [q : Hid (V → H → Prop)] : X → E → H → Prop := (@Q102 q)
def K102_1 (x0 : V) (h : H) [q : Hid (V → H → Prop)] : Prop := @Bnd V (vNilc x0) ⟨fun v1 => @Bnd V (vFa 7 v1) ⟨fun v2 => @Bnd V (vLd1 h v2) ⟨fun v3 => @Hid.un (V → H → Prop) q v3 h⟩⟩⟩
def J102_1 [q : Hid (V → H → Prop)] : E → H → Prop := fun e h => @K102_1 (e 0) h q
theorem p102_1 [q : Hid (V → H → Prop)] : den IP c102_1 (@Q102_1 q) = (@J102_1 q) := by kernel_rfl
def Q102_2 [q : Hid (V → H → Prop)] : X → E → H → Prop := (Qx (@J102_1 q) (@Q102 q))
def K102_2 (x0 x19 : V) (h : H) [q : Hid (V → H → Prop)] : Prop := @Sel x19 ⟨@Bnd V (vNilc x0) ⟨fun v1 => @Bnd V (vFa 0 v1) ⟨fun v2 => @Bnd V (vFa 5 v2) ⟨fun v3 => @Bnd V (vLd1 h v3) ⟨fun v4 => @Bnd V (vNilc x0) ⟨fun v5 => @Bnd V (vFa 7 v5) ⟨fun v6 => @Bnd (V × H) (vStore h 1 v6 (.i .i64 2)) ⟨fun r7 => @Bnd V (vNilc x0) ⟨fun v8 => @Bnd V (vFa 9 v8) ⟨fun v9 => @Bnd (V × H) (vStore r7.2 1 v9 v4) ⟨fun r10 => @Bnd V (vNilc x0) ⟨fun v11 => @Bnd V (vFa 10 v11) ⟨fun v12 => @Bnd (V × H) (vStore r10.2 1 v12 (.i .i64 0)) ⟨fun r13 => @K102_1 x0 r13.2 q⟩⟩⟩⟩⟩⟩⟩⟩⟩⟩⟩⟩⟩⟩ ⟨@K102_1 x0 h q⟩
def J102_2 [q : Hid (V → H → Prop)] : E → H → Prop := fun e h => @K102_2 (e 0) (e 19) h q
theorem p102_2 [q : Hid (V → H → Prop)] : den IP c102_2 (@Q102_2 q) = (@J102_2 q) := by kernel_rfl
def S102_6 [q : Hid (V → H → Prop)] : E → H → Prop := ((Qx (@J102_2 q) (Qx (@J102_1 q) (@Q102 q))) X.normal)
def K102_6 (x0 x12 x18 : V) (h : H) [q : Hid (V → H → Prop)] : Prop := @Bnd V (vPick x12 x18 (.b false)) ⟨fun v1 => @K102_2 x0 v1 h q⟩
def J102_6 [q : Hid (V → H → Prop)] : E → H → Prop := fun e h => @K102_6 (e 0) (e 12) (e 18) h q
theorem p102_6 [q : Hid (V → H → Prop)] : denOps IP o102_3 (@S102_6 q) = (@J102_6 q) := by
  refine Eq.trans (app_eq rfl rfl) ?_
  kernel_rfl
def K102 (x0 x1 : V) (h : H) [q : Hid (V → H → Prop)] : Prop := @Bnd V (vEqz false .p x0 (.p none)) ⟨fun v1 => @Sel v1 ⟨@Hid.un (V → H → Prop) q (.i .i64 0) h⟩ ⟨@Bnd V (vNilc x0) ⟨fun v2 => @Bnd V (vFa 7 v2) ⟨fun v3 => @Bnd V (vLd1 h v3) ⟨fun v4 => @Bnd V (bin .eql v4 (.i .i64 1)) ⟨fun v5 => @Grd v5 true ⟨@Bnd V (vNilc x0) ⟨fun v6 => @Bnd V (vFa 8 v6) ⟨fun v7 => @Bnd V (vLd1 h v7) ⟨fun v8 => @wF IP 147 [x1, v8] h ⟨fun v9 h10 => @K102_6 x0 v5 v9 h10 q⟩⟩⟩⟩⟩ ⟨@K102_6 x0 v5 undefV h q⟩⟩⟩⟩⟩⟩⟩
theorem p102 [q : Hid (V → H → Prop)] : den IP c102 (@Q102 q) = fun e h => @K102 (e 0) (e 1) h q := by
  refine Eq.trans (seq_eq (seq_eq (seq_eq (@p102_1 q) (seq_eq (@p102_2 q) (region_eq (app_eq (grp_eq2 12 true rfl (@p102_6 q) rfl) rfl)))) rfl) rfl) ?_
  kernel_rfl
theorem f102 (a0 a1 : V) (h : H) (Q : V → H → Prop) : @wF IP 102 [a0, a1] h ⟨Q⟩ ↔ @K102 a0 a1 h ⟨Q⟩ := (Fnc_den (ip102) (by kernel_rfl) (by kernel_rfl) h Q).trans (iff_of_eq (congrFun (congrFun (@p102 ⟨Q⟩) _) h))
def rQ102 (C : Nat → List V → H → Rr) (k : Nat) : X → E → H → Rr := Qrr rs102
def rQ102_1 (C : Nat → List V → H → Rr) (k : Nat) : X → E → H → Rr := (rQ102 C k)
def rK102_1 (C : Nat → List V → H → Rr) (k : Nat) (x0 : V) (h : H) : Rr := (rB (vNilc x0) fun v1 => (rB (vFa 7 v1) fun v2 => (rB (vLd1 h v2) fun v3 => (some (v3, h)))))
def rJ102_1 (C : Nat → List V → H → Rr) (k : Nat) : E → H → Rr := fun e h => (rK102_1 C k (e 0) h)
theorem rp102_1 (C : Nat → List V → H → Rr) (k : Nat) : dn C k c102_1 (rQ102_1 C k) = (rJ102_1 C k) := by kernel_rfl
def rQ102_2 (C : Nat → List V → H → Rr) (k : Nat) : X → E → H → Rr := (Qxr (rJ102_1 C k) (rQ102 C k))
def rK102_2 (C : Nat → List V → H → Rr) (k : Nat) (x0 x19 : V) (h : H) : Rr := (rS x19 (rB (vNilc x0) fun v1 => (rB (vFa 0 v1) fun v2 => (rB (vFa 5 v2) fun v3 => (rB (vLd1 h v3) fun v4 => (rB (vNilc x0) fun v5 => (rB (vFa 7 v5) fun v6 => (rB (vStore h 1 v6 (.i .i64 2)) fun r7 => (rB (vNilc x0) fun v8 => (rB (vFa 9 v8) fun v9 => (rB (vStore r7.2 1 v9 v4) fun r10 => (rB (vNilc x0) fun v11 => (rB (vFa 10 v11) fun v12 => (rB (vStore r10.2 1 v12 (.i .i64 0)) fun r13 => (rK102_1 C k x0 r13.2)))))))))))))) (rK102_1 C k x0 h))
def rJ102_2 (C : Nat → List V → H → Rr) (k : Nat) : E → H → Rr := fun e h => (rK102_2 C k (e 0) (e 19) h)
theorem rp102_2 (C : Nat → List V → H → Rr) (k : Nat) : dn C k c102_2 (rQ102_2 C k) = (rJ102_2 C k) := by kernel_rfl
def rS102_6 (C : Nat → List V → H → Rr) (k : Nat) : E → H → Rr := ((Qxr (rJ102_2 C k) (Qxr (rJ102_1 C k) (rQ102 C k))) X.normal)
def rK102_6 (C : Nat → List V → H → Rr) (k : Nat) (x0 x12 x18 : V) (h : H) : Rr := (rB (vPick x12 x18 (.b false)) fun v1 => (rK102_2 C k x0 v1 h))
def rJ102_6 (C : Nat → List V → H → Rr) (k : Nat) : E → H → Rr := fun e h => (rK102_6 C k (e 0) (e 12) (e 18) h)
theorem rp102_6 (C : Nat → List V → H → Rr) (k : Nat) : dnOps C o102_3 (rS102_6 C k) = (rJ102_6 C k) := by
  refine Eq.trans (rapp_eq rfl rfl) ?_
  kernel_rfl
def rK102 (C : Nat → List V → H → Rr) (k : Nat) (x0 x1 : V) (h : H) : Rr := (rB (vEqz false .p x0 (.p none)) fun v1 => (rS v1 (some ((.i .i64 0), h)) (rB (vNilc x0) fun v2 => (rB (vFa 7 v2) fun v3 => (rB (vLd1 h v3) fun v4 => (rB (bin .eql v4 (.i .i64 1)) fun v5 => (rG v5 true (rB (vNilc x0) fun v6 => (rB (vFa 8 v6) fun v7 => (rB (vLd1 h v7) fun v8 => (rK (C 147 [x1, v8] h) fun v9 h10 => (rK102_6 C k x0 v5 v9 h10))))) (rK102_6 C k x0 v5 undefV h))))))))
theorem rp102 (C : Nat → List V → H → Rr) (k : Nat) : dn C k c102 (rQ102 C k) = fun e h => (rK102 C k (e 0) (e 1) h) := by
  refine Eq.trans (rseq_eq (rseq_eq (rseq_eq (rp102_1 C k) (rseq_eq (rp102_2 C k) (rregion_eq (rapp_eq (rgrp_eq2 12 true rfl (rp102_6 C k) rfl) rfl)))) rfl) rfl) ?_
  kernel_rfl
def F102 : RF := fun C k a h => match a with
  | [a0, a1] => rK102 C k a0 a1 h
  | _ => none
theorem ro102 : RunOK IP 102 F102 := ⟨ir102, ip102, by kernel_rfl, fun C k a h r e => by
  unfold F102 at e
  split at e
  · exact ⟨by kernel_rfl, (congrFun (congrFun (rp102 C k) _) h).trans e⟩
  · cases e⟩
theorem ip103 : IP 103 = some ir103 := rfl
def rQ103 (C : Nat → List V → H → Rr) (k : Nat) : X → E → H → Rr := Qrr rs103
def rS103_10 (C : Nat → List V → H → Rr) (k : Nat) : List (E × H) → E → H → Rr := (fun st e h => rChk o103_9 ((e, h) :: st) 27 [(20, 22)] ((Qxr (dn C k .ret (rQ103 C k)) (rQ103 C k)) X.normal e h))
def rK103_10 (C : Nat → List V → H → Rr) (k : Nat) (k20_24 : V) (k20_25 : V) (k22_h : H) (k23_h : H) (x24 x30 : V) (h : H) : Rr := (rB (vPick x24 x30 (.b false)) fun v1 => (rC (stdyG k20_24 true (stdy false 1 k20_25 k22_h k23_h)) (some (v1, h))))
def rJ103_10 (C : Nat → List V → H → Rr) (k : Nat) : List (E × H) → E → H → Rr := fun st e h => (rK103_10 C k ((List.getD st 4 eh0).1 24) ((List.getD st 4 eh0).1 25) (List.getD st 2 eh0).2 (List.getD st 1 eh0).2 (e 24) (e 30) h)
theorem rp103_10 (C : Nat → List V → H → Rr) (k : Nat) : dnT C o103_1 (rS103_10 C k) = (rJ103_10 C k) := by
  refine Eq.trans (rtapp_eq rfl rfl) ?_
  kernel_rfl
def rS103_11 (C : Nat → List V → H → Rr) (k : Nat) : List (E × H) → E → H → Rr := (fun st e h => rChk o103_9 ((e, h) :: st) 27 [(20, 22)] ((Qxr (dn C k .ret (rQ103 C k)) (rQ103 C k)) X.normal e h))
def rK103_11 (C : Nat → List V → H → Rr) (k : Nat) (x1 x3 x19 x22 : V) (h : H) : Rr := (rB (vPick x19 x22 (.b false)) fun v1 => (rG v1 true (rB (vFa 0 x1) fun v2 => (rB (vLd1 h v2) fun v3 => (rK (C 104 [x3] h) fun v4 h5 => (rB (bin .sub (.i .i64 16384) v4) fun v6 => (rB (bin .leq v3 v6) fun v7 => (rK103_10 C k v1 v2 h h5 v1 v7 h5)))))) (rK103_10 C k v1 undefV h h v1 undefV h)))
def rJ103_11 (C : Nat → List V → H → Rr) (k : Nat) : List (E × H) → E → H → Rr := fun st e h => (rK103_11 C k (e 1) (e 3) (e 19) (e 22) h)
theorem rp103_11 (C : Nat → List V → H → Rr) (k : Nat) : dnT C o103_3 (rS103_11 C k) = (rJ103_11 C k) := by
  refine Eq.trans (rtapp_eq (rtgrp_eq2 24 true rfl (rp103_10 C k) rfl) rfl) ?_
  kernel_rfl
def rS103_12 (C : Nat → List V → H → Rr) (k : Nat) : List (E × H) → E → H → Rr := (fun st e h => rChk o103_9 ((e, h) :: st) 27 [(20, 22)] ((Qxr (dn C k .ret (rQ103 C k)) (rQ103 C k)) X.normal e h))
def rK103_12 (C : Nat → List V → H → Rr) (k : Nat) (x1 x3 x12 x17 : V) (h : H) : Rr := (rB (vPick x12 x17 (.b false)) fun v1 => (rG v1 true (rB (vFa 0 x1) fun v2 => (rB (vLd1 h v2) fun v3 => (rB (bin .geq v3 (.i .i64 0)) fun v4 => (rK103_11 C k x1 x3 v1 v4 h)))) (rK103_11 C k x1 x3 v1 undefV h)))
def rJ103_12 (C : Nat → List V → H → Rr) (k : Nat) : List (E × H) → E → H → Rr := fun st e h => (rK103_12 C k (e 1) (e 3) (e 12) (e 17) h)
theorem rp103_12 (C : Nat → List V → H → Rr) (k : Nat) : dnT C o103_5 (rS103_12 C k) = (rJ103_12 C k) := by
  refine Eq.trans (rtapp_eq (rtgrp_eq2 19 true rfl (rp103_11 C k) rfl) rfl) ?_
  kernel_rfl
def rS103_13 (C : Nat → List V → H → Rr) (k : Nat) : List (E × H) → E → H → Rr := (fun st e h => rChk o103_9 ((e, h) :: st) 27 [(20, 22)] ((Qxr (dn C k .ret (rQ103 C k)) (rQ103 C k)) X.normal e h))
def rK103_13 (C : Nat → List V → H → Rr) (k : Nat) (x1 x3 x8 x10 : V) (h : H) : Rr := (rB (vPick x8 x10 (.b false)) fun v1 => (rG v1 true (rB (bin .sub x3 (.i .i64 1)) fun v2 => (rB (bin .and x3 v2) fun v3 => (rB (bin .eql v3 (.i .i64 0)) fun v4 => (rK103_12 C k x1 x3 v1 v4 h)))) (rK103_12 C k x1 x3 v1 undefV h)))
def rJ103_13 (C : Nat → List V → H → Rr) (k : Nat) : List (E × H) → E → H → Rr := fun st e h => (rK103_13 C k (e 1) (e 3) (e 8) (e 10) h)
theorem rp103_13 (C : Nat → List V → H → Rr) (k : Nat) : dnT C o103_7 (rS103_13 C k) = (rJ103_13 C k) := by
  refine Eq.trans (rtapp_eq (rtgrp_eq2 12 true rfl (rp103_12 C k) rfl) rfl) ?_
  kernel_rfl
def rK103 (C : Nat → List V → H → Rr) (k : Nat) (x0 : V) (h : H) : Rr := (rB (vBox x0 h) fun r1 => (rB (vFa 1 r1.1) fun v2 => (rB (vLd1 r1.2 v2) fun v3 => (rB (bin .geq v3 (.i .i64 2)) fun v4 => (rG v4 true (rB (bin .leq v3 (.i .i64 64)) fun v5 => (rK103_13 C k r1.1 v3 v4 v5 r1.2)) (rK103_13 C k r1.1 v3 v4 undefV r1.2))))))
theorem rp103 (C : Nat → List V → H → Rr) (k : Nat) : dn C k c103 (rQ103 C k) = fun e h => (rK103 C k (e 0) h) := by
  refine Eq.trans (rseq_eq (rseq_eq (rseq_eq rfl (rdraw_eq (rtapp_eq (rtgrp_eq2 8 true rfl (rp103_13 C k) rfl) rfl))) rfl) rfl) ?_
  kernel_rfl
def F103 : RF := fun C k a h => match a with
  | [a0] => rK103 C k a0 h
  | _ => none
theorem ro103 : RunOK IP 103 F103 := ⟨ir103, ip103, by kernel_rfl, fun C k a h r e => by
  unfold F103 at e
  split at e
  · exact ⟨by kernel_rfl, (congrFun (congrFun (rp103 C k) _) h).trans e⟩
  · cases e⟩
theorem ip104 : IP 104 = some ir104 := rfl
def rQ104 (C : Nat → List V → H → Rr) (k : Nat) : X → E → H → Rr := Qrr rs104
def rK104 (C : Nat → List V → H → Rr) (k : Nat) (x0 : V) (h : H) : Rr := (rB (foldO max2 x0 [(.i .i64 0)]) fun v1 => (rB (foldO min2 v1 [(.i .i64 64)]) fun v2 => (rB (bin .mul v2 (.i .i64 4)) fun v3 => (rB (bin .add (.i .i64 1) v3) fun v4 => (some (v4, h))))))
theorem rp104 (C : Nat → List V → H → Rr) (k : Nat) : dn C k c104 (rQ104 C k) = fun e h => (rK104 C k (e 0) h) := by kernel_rfl
def F104 : RF := fun C k a h => match a with
  | [a0] => rK104 C k a0 h
  | _ => none
theorem ro104 : RunOK IP 104 F104 := ⟨ir104, ip104, by kernel_rfl, fun C k a h r e => by
  unfold F104 at e
  split at e
  · exact ⟨by kernel_rfl, (congrFun (congrFun (rp104 C k) _) h).trans e⟩
  · cases e⟩
theorem ip105 : IP 105 = some ir105 := rfl
def rQ105 (C : Nat → List V → H → Rr) (k : Nat) : X → E → H → Rr := Qrr rs105
def rK105 (C : Nat → List V → H → Rr) (k : Nat) (x0 : V) (h : H) : Rr := (rB (vEqz false .p x0 (.p none)) fun v1 => (rS v1 (some ((.i .i64 0), h)) (rB (vNilc x0) fun v2 => (rB (vFa 0 v2) fun v3 => (rB (vLd1 h v3) fun v4 => (rB (vLens v4) fun v5 => (some (v5, h))))))))
theorem rp105 (C : Nat → List V → H → Rr) (k : Nat) : dn C k c105 (rQ105 C k) = fun e h => (rK105 C k (e 0) h) := by kernel_rfl
def F105 : RF := fun C k a h => match a with
  | [a0] => rK105 C k a0 h
  | _ => none
theorem ro105 : RunOK IP 105 F105 := ⟨ir105, ip105, by kernel_rfl, fun C k a h r e => by
  unfold F105 at e
  split at e
  · exact ⟨by kernel_rfl, (congrFun (congrFun (rp105 C k) _) h).trans e⟩
  · cases e⟩
theorem ip106 : IP 106 = some ir106 := rfl
def rQ106 (C : Nat → List V → H → Rr) (k : Nat) : X → E → H → Rr := Qrr rs106
def rK106 (C : Nat → List V → H → Rr) (k : Nat) (x0 x1 : V) (h : H) : Rr := (rB (vBox x0 h) fun r1 => (rB (vFa 0 r1.1) fun v2 => (rB (vLd1 r1.2 v2) fun v3 => (rB (bin .add v3 (.i .i64 1)) fun v4 => (rB (vFa 1 r1.1) fun v5 => (rB (vLd1 r1.2 v5) fun v6 => (rB (vCvi .u64 v6) fun v7 => (rB (bin .rem x1 v7) fun v8 => (rB (vCvi .i64 v8) fun v9 => (rB (bin .mul v9 (.i .i64 4)) fun v10 => (rB (bin .add v4 v10) fun v11 => (some (v11, r1.2)))))))))))))
theorem rp106 (C : Nat → List V → H → Rr) (k : Nat) : dn C k c106 (rQ106 C k) = fun e h => (rK106 C k (e 0) (e 1) h) := by kernel_rfl
def F106 : RF := fun C k a h => match a with
  | [a0, a1] => rK106 C k a0 a1 h
  | _ => none
theorem ro106 : RunOK IP 106 F106 := ⟨ir106, ip106, by kernel_rfl, fun C k a h r e => by
  unfold F106 at e
  split at e
  · exact ⟨by kernel_rfl, (congrFun (congrFun (rp106 C k) _) h).trans e⟩
  · cases e⟩
theorem ip107 : IP 107 = some ir107 := rfl
def rQ107 (C : Nat → List V → H → Rr) (k : Nat) : X → E → H → Rr := Qrr rs107
def rS107_16 (C : Nat → List V → H → Rr) (k : Nat) : E → H → Rr := ((Qxr (dn C k .ret (rQ107 C k)) (rQ107 C k)) X.normal)
def rK107_16 (C : Nat → List V → H → Rr) (k : Nat) (x36 x39 : V) (h : H) : Rr := (rB (vPick x36 x39 (.b false)) fun v1 => (some (v1, h)))
def rJ107_16 (C : Nat → List V → H → Rr) (k : Nat) : E → H → Rr := fun e h => (rK107_16 C k (e 36) (e 39) h)
theorem rp107_16 (C : Nat → List V → H → Rr) (k : Nat) : dnOps C o107_1 (rS107_16 C k) = (rJ107_16 C k) := by
  refine Eq.trans (rapp_eq rfl rfl) ?_
  kernel_rfl
def rS107_17 (C : Nat → List V → H → Rr) (k : Nat) : E → H → Rr := ((Qxr (dn C k .ret (rQ107 C k)) (rQ107 C k)) X.normal)
def rK107_17 (C : Nat → List V → H → Rr) (k : Nat) (x1 x31 x34 : V) (h : H) : Rr := (rB (vPick x31 x34 (.b false)) fun v1 => (rG v1 true (rB (vFa 9 x1) fun v2 => (rB (vLd1 h v2) fun v3 => (rK (C 148 [v3, (.i .i64 65535)] h) fun v4 h5 => (rK107_16 C k v1 v4 h5)))) (rK107_16 C k v1 undefV h)))
def rJ107_17 (C : Nat → List V → H → Rr) (k : Nat) : E → H → Rr := fun e h => (rK107_17 C k (e 1) (e 31) (e 34) h)
theorem rp107_17 (C : Nat → List V → H → Rr) (k : Nat) : dnOps C o107_3 (rS107_17 C k) = (rJ107_17 C k) := by
  refine Eq.trans (rapp_eq (rgrp_eq2 36 true rfl (rp107_16 C k) rfl) rfl) ?_
  kernel_rfl
def rS107_18 (C : Nat → List V → H → Rr) (k : Nat) : E → H → Rr := ((Qxr (dn C k .ret (rQ107 C k)) (rQ107 C k)) X.normal)
def rK107_18 (C : Nat → List V → H → Rr) (k : Nat) (x1 x26 x29 : V) (h : H) : Rr := (rB (vPick x26 x29 (.b false)) fun v1 => (rG v1 true (rB (vFa 6 x1) fun v2 => (rB (vLd1 h v2) fun v3 => (rK (C 148 [v3, (.i .i64 15)] h) fun v4 h5 => (rK107_17 C k x1 v1 v4 h5)))) (rK107_17 C k x1 v1 undefV h)))
def rJ107_18 (C : Nat → List V → H → Rr) (k : Nat) : E → H → Rr := fun e h => (rK107_18 C k (e 1) (e 26) (e 29) h)
theorem rp107_18 (C : Nat → List V → H → Rr) (k : Nat) : dnOps C o107_5 (rS107_18 C k) = (rJ107_18 C k) := by
  refine Eq.trans (rapp_eq (rgrp_eq2 31 true rfl (rp107_17 C k) rfl) rfl) ?_
  kernel_rfl
def rS107_19 (C : Nat → List V → H → Rr) (k : Nat) : E → H → Rr := ((Qxr (dn C k .ret (rQ107 C k)) (rQ107 C k)) X.normal)
def rK107_19 (C : Nat → List V → H → Rr) (k : Nat) (x1 x21 x24 : V) (h : H) : Rr := (rB (vPick x21 x24 (.b false)) fun v1 => (rG v1 true (rB (vFa 4 x1) fun v2 => (rB (vLd1 h v2) fun v3 => (rK (C 148 [v3, (.i .i64 16777215)] h) fun v4 h5 => (rK107_18 C k x1 v1 v4 h5)))) (rK107_18 C k x1 v1 undefV h)))
def rJ107_19 (C : Nat → List V → H → Rr) (k : Nat) : E → H → Rr := fun e h => (rK107_19 C k (e 1) (e 21) (e 24) h)
theorem rp107_19 (C : Nat → List V → H → Rr) (k : Nat) : dnOps C o107_7 (rS107_19 C k) = (rJ107_19 C k) := by
  refine Eq.trans (rapp_eq (rgrp_eq2 26 true rfl (rp107_18 C k) rfl) rfl) ?_
  kernel_rfl
def rS107_20 (C : Nat → List V → H → Rr) (k : Nat) : E → H → Rr := ((Qxr (dn C k .ret (rQ107 C k)) (rQ107 C k)) X.normal)
def rK107_20 (C : Nat → List V → H → Rr) (k : Nat) (x1 x16 x19 : V) (h : H) : Rr := (rB (vPick x16 x19 (.b false)) fun v1 => (rG v1 true (rB (vFa 3 x1) fun v2 => (rB (vLd1 h v2) fun v3 => (rK (C 148 [v3, (.i .i64 15)] h) fun v4 h5 => (rK107_19 C k x1 v1 v4 h5)))) (rK107_19 C k x1 v1 undefV h)))
def rJ107_20 (C : Nat → List V → H → Rr) (k : Nat) : E → H → Rr := fun e h => (rK107_20 C k (e 1) (e 16) (e 19) h)
theorem rp107_20 (C : Nat → List V → H → Rr) (k : Nat) : dnOps C o107_9 (rS107_20 C k) = (rJ107_20 C k) := by
  refine Eq.trans (rapp_eq (rgrp_eq2 21 true rfl (rp107_19 C k) rfl) rfl) ?_
  kernel_rfl
def rS107_21 (C : Nat → List V → H → Rr) (k : Nat) : E → H → Rr := ((Qxr (dn C k .ret (rQ107 C k)) (rQ107 C k)) X.normal)
def rK107_21 (C : Nat → List V → H → Rr) (k : Nat) (x1 x11 x14 : V) (h : H) : Rr := (rB (vPick x11 x14 (.b false)) fun v1 => (rG v1 true (rB (vFa 2 x1) fun v2 => (rB (vLd1 h v2) fun v3 => (rK (C 148 [v3, (.i .i64 3)] h) fun v4 h5 => (rK107_20 C k x1 v1 v4 h5)))) (rK107_20 C k x1 v1 undefV h)))
def rJ107_21 (C : Nat → List V → H → Rr) (k : Nat) : E → H → Rr := fun e h => (rK107_21 C k (e 1) (e 11) (e 14) h)
theorem rp107_21 (C : Nat → List V → H → Rr) (k : Nat) : dnOps C o107_11 (rS107_21 C k) = (rJ107_21 C k) := by
  refine Eq.trans (rapp_eq (rgrp_eq2 16 true rfl (rp107_20 C k) rfl) rfl) ?_
  kernel_rfl
def rS107_22 (C : Nat → List V → H → Rr) (k : Nat) : E → H → Rr := ((Qxr (dn C k .ret (rQ107 C k)) (rQ107 C k)) X.normal)
def rK107_22 (C : Nat → List V → H → Rr) (k : Nat) (x1 x6 x9 : V) (h : H) : Rr := (rB (vPick x6 x9 (.b false)) fun v1 => (rG v1 true (rB (vFa 1 x1) fun v2 => (rB (vLd1 h v2) fun v3 => (rK (C 148 [v3, (.i .i64 3)] h) fun v4 h5 => (rK107_21 C k x1 v1 v4 h5)))) (rK107_21 C k x1 v1 undefV h)))
def rJ107_22 (C : Nat → List V → H → Rr) (k : Nat) : E → H → Rr := fun e h => (rK107_22 C k (e 1) (e 6) (e 9) h)
theorem rp107_22 (C : Nat → List V → H → Rr) (k : Nat) : dnOps C o107_13 (rS107_22 C k) = (rJ107_22 C k) := by
  refine Eq.trans (rapp_eq (rgrp_eq2 11 true rfl (rp107_21 C k) rfl) rfl) ?_
  kernel_rfl
def rK107 (C : Nat → List V → H → Rr) (k : Nat) (x0 : V) (h : H) : Rr := (rB (vBox x0 h) fun r1 => (rB (vFa 0 r1.1) fun v2 => (rB (vLd1 r1.2 v2) fun v3 => (rB (bin .geq v3 (.i .i64 1)) fun v4 => (rG v4 true (rB (vFa 0 r1.1) fun v5 => (rB (vLd1 r1.2 v5) fun v6 => (rB (bin .leq v6 (.i .i64 10)) fun v7 => (rK107_22 C k r1.1 v4 v7 r1.2)))) (rK107_22 C k r1.1 v4 undefV r1.2))))))
theorem rp107 (C : Nat → List V → H → Rr) (k : Nat) : dn C k c107 (rQ107 C k) = fun e h => (rK107 C k (e 0) h) := by
  refine Eq.trans (rseq_eq (rseq_eq rfl (rregion_eq (rapp_eq (rgrp_eq2 6 true rfl (rp107_22 C k) rfl) rfl))) rfl) ?_
  kernel_rfl
def F107 : RF := fun C k a h => match a with
  | [a0] => rK107 C k a0 h
  | _ => none
theorem ro107 : RunOK IP 107 F107 := ⟨ir107, ip107, by kernel_rfl, fun C k a h r e => by
  unfold F107 at e
  split at e
  · exact ⟨by kernel_rfl, (congrFun (congrFun (rp107 C k) _) h).trans e⟩
  · cases e⟩
theorem ip108 : IP 108 = some ir108 := rfl
def rQ108 (C : Nat → List V → H → Rr) (k : Nat) : X → E → H → Rr := Qrr rs108
def rK108 (C : Nat → List V → H → Rr) (k : Nat) (x0 x1 x2 : V) (h : H) : Rr := (rB (vBox x0 h) fun r1 => (rB (vLdA r1.2 2 r1.1) fun v2 => (rK (C 149 [v2] r1.2) fun v3 h4 => (rB (un .not v3) fun v5 => (rS v5 (some (x1, h4)) (rB (vLdA h4 2 r1.1) fun v6 => (rK (C 150 [v6] h4) fun v7 h8 => (rB (bin .andNot x1 v7) fun v9 => (rB (vLdA h8 2 r1.1) fun v10 => (rK (C 151 [v10] h8) fun v11 h12 => (rB (foldO min2 x2 [v11]) fun v13 => (rB (vFa 0 r1.1) fun v14 => (rB (vLd1 h12 v14) fun v15 => (rB (bin .shl v13 v15) fun v16 => (rB (bin .or v9 v16) fun v17 => (rC (stdy true 2 r1.1 h4 h8) (rC (stdy false 1 v14 h4 h8) (rC (stdy false 1 v14 h8 h12) (some (v17, h12))))))))))))))))))))
theorem rp108 (C : Nat → List V → H → Rr) (k : Nat) : dn C k c108 (rQ108 C k) = fun e h => (rK108 C k (e 0) (e 1) (e 2) h) := by kernel_rfl
def F108 : RF := fun C k a h => match a with
  | [a0, a1, a2] => rK108 C k a0 a1 a2 h
  | _ => none
theorem ro108 : RunOK IP 108 F108 := ⟨ir108, ip108, by kernel_rfl, fun C k a h r e => by
  unfold F108 at e
  split at e
  · exact ⟨by kernel_rfl, (congrFun (congrFun (rp108 C k) _) h).trans e⟩
  · cases e⟩
theorem ip109 : IP 109 = some ir109 := rfl
def rQ109 (C : Nat → List V → H → Rr) (k : Nat) : X → E → H → Rr := Qrr rs109
def rK109 (C : Nat → List V → H → Rr) (k : Nat) (x0 : V) (h : H) : Rr := (rS x0 (some ((.i .u64 1), h)) (some ((.i .u64 0), h)))
theorem rp109 (C : Nat → List V → H → Rr) (k : Nat) : dn C k c109 (rQ109 C k) = fun e h => (rK109 C k (e 0) h) := by kernel_rfl
def F109 : RF := fun C k a h => match a with
  | [a0] => rK109 C k a0 h
  | _ => none
theorem ro109 : RunOK IP 109 F109 := ⟨ir109, ip109, by kernel_rfl, fun C k a h r e => by
  unfold F109 at e
  split at e
  · exact ⟨by kernel_rfl, (congrFun (congrFun (rp109 C k) _) h).trans e⟩
  · cases e⟩
theorem ip110 : IP 110 = some ir110 := rfl
def rQ110 (C : Nat → List V → H → Rr) (k : Nat) : X → E → H → Rr := Qrr rs110
def rK110 (C : Nat → List V → H → Rr) (k : Nat) (x0 x1 : V) (h : H) : Rr := (rK (C 129 [x0, x1] h) fun v1 h2 => (rB (un .not v1) fun v3 => (rS v3 (some ((.i .u64 0), h2)) (rB (vNilc x0) fun v4 => (rB (vFa 0 v4) fun v5 => (rB (vLd1 h2 v5) fun v6 => (rB (vIa 1 v6 x1) fun v7 => (rB (vLd1 h2 v7) fun v8 => (some (v8, h2))))))))))
theorem rp110 (C : Nat → List V → H → Rr) (k : Nat) : dn C k c110 (rQ110 C k) = fun e h => (rK110 C k (e 0) (e 1) h) := by kernel_rfl
def F110 : RF := fun C k a h => match a with
  | [a0, a1] => rK110 C k a0 a1 h
  | _ => none
theorem ro110 : RunOK IP 110 F110 := ⟨ir110, ip110, by kernel_rfl, fun C k a h r e => by
  unfold F110 at e
  split at e
  · exact ⟨by kernel_rfl, (congrFun (congrFun (rp110 C k) _) h).trans e⟩
  · cases e⟩
theorem ip111 : IP 111 = some ir111 := rfl
def rQ111 (C : Nat → List V → H → Rr) (k : Nat) : X → E → H → Rr := Qrr rs111
def rK111 (C : Nat → List V → H → Rr) (k : Nat) (x0 : V) (h : H) : Rr := (rB (vBox x0 h) fun r1 => (rB (vLdA r1.2 2 r1.1) fun v2 => (rK (C 103 [v2] r1.2) fun v3 h4 => (rB (un .not v3) fun v5 => (rS v5 (some ((.i .i64 (-1)), h4)) (rB (vFa 0 r1.1) fun v6 => (rB (vLd1 h4 v6) fun v7 => (some (v7, h4)))))))))
theorem rp111 (C : Nat → List V → H → Rr) (k : Nat) : dn C k c111 (rQ111 C k) = fun e h => (rK111 C k (e 0) h) := by kernel_rfl
def F111 : RF := fun C k a h => match a with
  | [a0] => rK111 C k a0 h
  | _ => none
theorem ro111 : RunOK IP 111 F111 := ⟨ir111, ip111, by kernel_rfl, fun C k a h r e => by
  unfold F111 at e
  split at e
  · exact ⟨by kernel_rfl, (congrFun (congrFun (rp111 C k) _) h).trans e⟩
  · cases e⟩
theorem ip112 : IP 112 = some ir112 := rfl
def rQ112 (C : Nat → List V → H → Rr) (k : Nat) : X → E → H → Rr := Qrr rs112
def rQ112_1 (C : Nat → List V → H → Rr) (k : Nat) : X → E → H → Rr := (rQ112 C k)
def rK112_1 (C : Nat → List V → H → Rr) (k : Nat) (x2 x4 : V) (h : H) : Rr := (rB (vLdA h 9 x2) fun v1 => (rB (vStore h 9 x4 v1) fun r2 => (rB (vLdA r2.2 9 x4) fun v3 => (some (v3, r2.2)))))
def rJ112_1 (C : Nat → List V → H → Rr) (k : Nat) : E → H → Rr := fun e h => (rK112_1 C k (e 2) (e 4) h)
theorem rp112_1 (C : Nat → List V → H → Rr) (k : Nat) : dn C k c112_1 (rQ112_1 C k) = (rJ112_1 C k) := by kernel_rfl
def rQ112_2 (C : Nat → List V → H → Rr) (k : Nat) : X → E → H → Rr := (Qbr 0 (Qxr (rJ112_1 C k) (rQ112 C k)))
def rQ112_3 (C : Nat → List V → H → Rr) (k : Nat) : X → E → H → Rr := (rQ112_2 C k)
def rK112_3 (C : Nat → List V → H → Rr) (k : Nat) (x2 x4 x22 : V) (h : H) : Rr := (rS x22 (rB (vFa 8 x2) fun v1 => (rB (vStore h 1 v1 (.b true)) fun r2 => (rK112_1 C k x2 x4 r2.2))) (rB (vFa 6 x2) fun v3 => (rB (vStore h 1 v3 (.i .i64 0)) fun r4 => (rK112_1 C k x2 x4 r4.2))))
def rJ112_3 (C : Nat → List V → H → Rr) (k : Nat) : E → H → Rr := fun e h => (rK112_3 C k (e 2) (e 4) (e 22) h)
theorem rp112_3 (C : Nat → List V → H → Rr) (k : Nat) : dn C k c112_3 (rQ112_3 C k) = (rJ112_3 C k) := by kernel_rfl
def rS112_7 (C : Nat → List V → H → Rr) (k : Nat) : E → H → Rr := ((Qxr (rJ112_3 C k) (rQ112_2 C k)) X.normal)
def rK112_7 (C : Nat → List V → H → Rr) (k : Nat) (x2 x4 x27 x29 : V) (h : H) : Rr := (rB (vPick x27 (.b true) x29) fun v1 => (rK112_3 C k x2 x4 v1 h))
def rJ112_7 (C : Nat → List V → H → Rr) (k : Nat) : E → H → Rr := fun e h => (rK112_7 C k (e 2) (e 4) (e 27) (e 29) h)
theorem rp112_7 (C : Nat → List V → H → Rr) (k : Nat) : dnOps C o112_4 (rS112_7 C k) = (rJ112_7 C k) := by
  refine Eq.trans (rapp_eq rfl rfl) ?_
  kernel_rfl
def rK112_2 (C : Nat → List V → H → Rr) (k : Nat) (x1 x2 x4 x6 : V) (h : H) : Rr := (rS x6 (rB (vFa 6 x2) fun v1 => (rB (vStore h 1 v1 (.i .i64 3)) fun r2 => (rK112_1 C k x2 x4 r2.2))) (rB (vFa 5 x2) fun v3 => (rB (vLd1 h v3) fun v4 => (rB (bin .eql x1 v4) fun v5 => (rS v5 (rB (vFa 6 x2) fun v6 => (rB (vStore h 1 v6 (.i .i64 2)) fun r7 => (rK112_1 C k x2 x4 r7.2))) (rB (vFa 5 x2) fun v8 => (rB (vLd1 h v8) fun v9 => (rB (bin .lss x1 v9) fun v10 => (rG v10 false (rB (vFa 7 x2) fun v11 => (rB (vLd1 h v11) fun v12 => (rK112_7 C k x2 x4 v10 v12 h))) (rK112_7 C k x2 x4 v10 undefV h))))))))))
def rJ112_2 (C : Nat → List V → H → Rr) (k : Nat) : E → H → Rr := fun e h => (rK112_2 C k (e 1) (e 2) (e 4) (e 6) h)
theorem rp112_2 (C : Nat → List V → H → Rr) (k : Nat) : dn C k c112_2 (rQ112_2 C k) = (rJ112_2 C k) := by
  refine Eq.trans (rcond_eq rfl (rseq_eq (rcond_eq rfl (rseq_eq (rp112_3 C k) (rregion_eq (rapp_eq (rgrp_eq2 27 false rfl (rp112_7 C k) rfl) rfl)))) rfl)) ?_
  kernel_rfl
def rS112_11 (C : Nat → List V → H → Rr) (k : Nat) : E → H → Rr := ((Qxr (rJ112_2 C k) (Qbr 0 (Qxr (rJ112_1 C k) (rQ112 C k)))) X.normal)
def rK112_11 (C : Nat → List V → H → Rr) (k : Nat) (x1 x2 x4 x11 x13 : V) (h : H) : Rr := (rB (vPick x11 x13 (.b false)) fun v1 => (rK112_2 C k x1 x2 x4 v1 h))
def rJ112_11 (C : Nat → List V → H → Rr) (k : Nat) : E → H → Rr := fun e h => (rK112_11 C k (e 1) (e 2) (e 4) (e 11) (e 13) h)
theorem rp112_11 (C : Nat → List V → H → Rr) (k : Nat) : dnOps C o112_8 (rS112_11 C k) = (rJ112_11 C k) := by
  refine Eq.trans (rapp_eq rfl rfl) ?_
  kernel_rfl
def rK112 (C : Nat → List V → H → Rr) (k : Nat) (x0 x1 : V) (h : H) : Rr := (rB (vBox x0 h) fun r1 => (rB (some (.p (some (H.nx r1.2, 0)), H.new r1.2 ⟨false, [(.i .i64 0), (.i .i64 0), (.i .u64 0), (.i .u64 0), (.i .u64 0), (.i .u64 0), (.i .i64 0), (.b false), (.b false)]⟩)) fun r2 => (rB (vFa 5 r1.1) fun v3 => (rB (vLd1 r2.2 v3) fun v4 => (rB (bin .eql x1 v4) fun v5 => (rG v5 true (rB (vFa 7 r1.1) fun v6 => (rB (vLd1 r2.2 v6) fun v7 => (rK112_11 C k x1 r1.1 r2.1 v5 v7 r2.2))) (rK112_11 C k x1 r1.1 r2.1 v5 undefV r2.2)))))))
theorem rp112 (C : Nat → List V → H → Rr) (k : Nat) : dn C k c112 (rQ112 C k) = fun e h => (rK112 C k (e 0) (e 1) h) := by
  refine Eq.trans (rseq_eq (rseq_eq (rp112_1 C k) (rblock_eq (rseq_eq (rp112_2 C k) (rregion_eq (rapp_eq (rgrp_eq2 11 true rfl (rp112_11 C k) rfl) rfl))))) rfl) ?_
  kernel_rfl
def F112 : RF := fun C k a h => match a with
  | [a0, a1] => rK112 C k a0 a1 h
  | _ => none
theorem ro112 : RunOK IP 112 F112 := ⟨ir112, ip112, by kernel_rfl, fun C k a h r e => by
  unfold F112 at e
  split at e
  · exact ⟨by kernel_rfl, (congrFun (congrFun (rp112 C k) _) h).trans e⟩
  · cases e⟩
theorem ip113 : IP 113 = some ir113 := rfl
def rQ113 (C : Nat → List V → H → Rr) (k : Nat) : X → E → H → Rr := Qrr rs113
def rK113 (C : Nat → List V → H → Rr) (k : Nat) (x0 x1 : V) (h : H) : Rr := (rB (vBox x0 h) fun r1 => (rB (vLdA r1.2 2 r1.1) fun v2 => (rK (C 103 [v2] r1.2) fun v3 h4 => (rB (un .not v3) fun v5 => (rS v5 (some ((.i .i64 (-1)), h4)) (rB (vLdA h4 2 r1.1) fun v6 => (rK (C 106 [v6, x1] h4) fun v7 h8 => (some (v7, h8)))))))))
theorem rp113 (C : Nat → List V → H → Rr) (k : Nat) : dn C k c113 (rQ113 C k) = fun e h => (rK113 C k (e 0) (e 1) h) := by kernel_rfl
def F113 : RF := fun C k a h => match a with
  | [a0, a1] => rK113 C k a0 a1 h
  | _ => none
theorem ro113 : RunOK IP 113 F113 := ⟨ir113, ip113, by kernel_rfl, fun C k a h r e => by
  unfold F113 at e
  split at e
  · exact ⟨by kernel_rfl, (congrFun (congrFun (rp113 C k) _) h).trans e⟩
  · cases e⟩
theorem ip114 : IP 114 = some ir114 := rfl
def rQ114 (C : Nat → List V → H → Rr) (k : Nat) : X → E → H → Rr := Qrr rs114
def rQ114_1 (C : Nat → List V → H → Rr) (k : Nat) : X → E → H → Rr := (rQ114 C k)
def rK114_1 (C : Nat → List V → H → Rr) (k : Nat) (x0 x1 x3 : V) (h : H) : Rr := (rB (vNilc x0) fun v1 => (rB (vFa 0 v1) fun v2 => (rB (vLd1 h v2) fun v3 => (rB (vIa 1 v3 x1) fun v4 => (rB (vStore h 1 v4 x3) fun r5 => (some ((.b true), r5.2)))))))
def rJ114_1 (C : Nat → List V → H → Rr) (k : Nat) : E → H → Rr := fun e h => (rK114_1 C k (e 0) (e 1) (e 3) h)
theorem rp114_1 (C : Nat → List V → H → Rr) (k : Nat) : dn C k c114_1 (rQ114_1 C k) = (rJ114_1 C k) := by kernel_rfl
def rQ114_2 (C : Nat → List V → H → Rr) (k : Nat) : X → E → H → Rr := (Qxr (rJ114_1 C k) (rQ114 C k))
def rK114_2 (C : Nat → List V → H → Rr) (k : Nat) (x0 x1 x3 x23 : V) (h : H) : Rr := (rS x23 (some ((.b false), h)) (rK114_1 C k x0 x1 x3 h))
def rJ114_2 (C : Nat → List V → H → Rr) (k : Nat) : E → H → Rr := fun e h => (rK114_2 C k (e 0) (e 1) (e 3) (e 23) h)
theorem rp114_2 (C : Nat → List V → H → Rr) (k : Nat) : dn C k c114_2 (rQ114_2 C k) = (rJ114_2 C k) := by kernel_rfl
def rS114_6 (C : Nat → List V → H → Rr) (k : Nat) : E → H → Rr := ((Qxr (rJ114_2 C k) (Qxr (rJ114_1 C k) (rQ114 C k))) X.normal)
def rK114_6 (C : Nat → List V → H → Rr) (k : Nat) (x0 x1 x3 x13 x22 : V) (h : H) : Rr := (rB (vPick x13 (.b true) x22) fun v1 => (rK114_2 C k x0 x1 x3 v1 h))
def rJ114_6 (C : Nat → List V → H → Rr) (k : Nat) : E → H → Rr := fun e h => (rK114_6 C k (e 0) (e 1) (e 3) (e 13) (e 22) h)
theorem rp114_6 (C : Nat → List V → H → Rr) (k : Nat) : dnOps C o114_3 (rS114_6 C k) = (rJ114_6 C k) := by
  refine Eq.trans (rapp_eq rfl rfl) ?_
  kernel_rfl
def rK114 (C : Nat → List V → H → Rr) (k : Nat) (x0 x1 x2 x3 : V) (h : H) : Rr := (rK (C 129 [x0, x1] h) fun v1 h2 => (rB (un .not v1) fun v3 => (rG v3 false (rB (vNilc x0) fun v4 => (rB (vFa 0 v4) fun v5 => (rB (vLd1 h2 v5) fun v6 => (rB (vIa 1 v6 x1) fun v7 => (rB (vLd1 h2 v7) fun v8 => (rB (bin .neq v8 x2) fun v9 => (rK114_6 C k x0 x1 x3 v3 v9 h2))))))) (rK114_6 C k x0 x1 x3 v3 undefV h2))))
theorem rp114 (C : Nat → List V → H → Rr) (k : Nat) : dn C k c114 (rQ114 C k) = fun e h => (rK114 C k (e 0) (e 1) (e 2) (e 3) h) := by
  refine Eq.trans (rseq_eq (rseq_eq (rp114_1 C k) (rseq_eq (rp114_2 C k) (rregion_eq (rapp_eq (rgrp_eq2 13 false rfl (rp114_6 C k) rfl) rfl)))) rfl) ?_
  kernel_rfl
def F114 : RF := fun C k a h => match a with
  | [a0, a1, a2, a3] => rK114 C k a0 a1 a2 a3 h
  | _ => none
theorem ro114 : RunOK IP 114 F114 := ⟨ir114, ip114, by kernel_rfl, fun C k a h r e => by
  unfold F114 at e
  split at e
  · exact ⟨by kernel_rfl, (congrFun (congrFun (rp114 C k) _) h).trans e⟩
  · cases e⟩
theorem ip115 : IP 115 = some ir115 := rfl
def rQ115 (C : Nat → List V → H → Rr) (k : Nat) : X → E → H → Rr := Qrr rs115
def rQ115_1 (C : Nat → List V → H → Rr) (k : Nat) : X → E → H → Rr := (rQ115 C k)
def rK115_1 (C : Nat → List V → H → Rr) (k : Nat) (x1 x2 x3 : V) (h : H) : Rr := (rB (vLdA h 2 x3) fun v1 => (rK (C 106 [v1, x1] h) fun v2 h3 => (rB (bin .add v2 (.i .i64 1)) fun v4 => (rB (bin .add v4 x2) fun v5 => (some (v5, h3))))))
def rJ115_1 (C : Nat → List V → H → Rr) (k : Nat) : E → H → Rr := fun e h => (rK115_1 C k (e 1) (e 2) (e 3) h)
theorem rp115_1 (C : Nat → List V → H → Rr) (k : Nat) : dn C k c115_1 (rQ115_1 C k) = (rJ115_1 C k) := by kernel_rfl
def rQ115_2 (C : Nat → List V → H → Rr) (k : Nat) : X → E → H → Rr := (Qxr (rJ115_1 C k) (rQ115 C k))
def rK115_2 (C : Nat → List V → H → Rr) (k : Nat) (x1 x2 x3 x17 : V) (h : H) : Rr := (rS x17 (some ((.i .i64 (-1)), h)) (rK115_1 C k x1 x2 x3 h))
def rJ115_2 (C : Nat → List V → H → Rr) (k : Nat) : E → H → Rr := fun e h => (rK115_2 C k (e 1) (e 2) (e 3) (e 17) h)
theorem rp115_2 (C : Nat → List V → H → Rr) (k : Nat) : dn C k c115_2 (rQ115_2 C k) = (rJ115_2 C k) := by kernel_rfl
def rS115_8 (C : Nat → List V → H → Rr) (k : Nat) : E → H → Rr := ((Qxr (rJ115_2 C k) (Qxr (rJ115_1 C k) (rQ115 C k))) X.normal)
def rK115_8 (C : Nat → List V → H → Rr) (k : Nat) (x1 x2 x3 x14 x16 : V) (h : H) : Rr := (rB (vPick x14 (.b true) x16) fun v1 => (rK115_2 C k x1 x2 x3 v1 h))
def rJ115_8 (C : Nat → List V → H → Rr) (k : Nat) : E → H → Rr := fun e h => (rK115_8 C k (e 1) (e 2) (e 3) (e 14) (e 16) h)
theorem rp115_8 (C : Nat → List V → H → Rr) (k : Nat) : dnOps C o115_3 (rS115_8 C k) = (rJ115_8 C k) := by
  refine Eq.trans (rapp_eq rfl rfl) ?_
  kernel_rfl
def rS115_9 (C : Nat → List V → H → Rr) (k : Nat) : E → H → Rr := ((Qxr (rJ115_2 C k) (Qxr (rJ115_1 C k) (rQ115 C k))) X.normal)
def rK115_9 (C : Nat → List V → H → Rr) (k : Nat) (x1 x2 x3 x10 x12 : V) (h : H) : Rr := (rB (vPick x10 (.b true) x12) fun v1 => (rG v1 false (rB (bin .geq x2 (.i .i64 3)) fun v2 => (rK115_8 C k x1 x2 x3 v1 v2 h)) (rK115_8 C k x1 x2 x3 v1 undefV h)))
def rJ115_9 (C : Nat → List V → H → Rr) (k : Nat) : E → H → Rr := fun e h => (rK115_9 C k (e 1) (e 2) (e 3) (e 10) (e 12) h)
theorem rp115_9 (C : Nat → List V → H → Rr) (k : Nat) : dnOps C o115_5 (rS115_9 C k) = (rJ115_9 C k) := by
  refine Eq.trans (rapp_eq (rgrp_eq2 14 false rfl (rp115_8 C k) rfl) rfl) ?_
  kernel_rfl
def rK115 (C : Nat → List V → H → Rr) (k : Nat) (x0 x1 x2 : V) (h : H) : Rr := (rB (vBox x0 h) fun r1 => (rB (vLdA r1.2 2 r1.1) fun v2 => (rK (C 103 [v2] r1.2) fun v3 h4 => (rB (un .not v3) fun v5 => (rG v5 false (rB (bin .lss x2 (.i .i64 0)) fun v6 => (rK115_9 C k x1 x2 r1.1 v5 v6 h4)) (rK115_9 C k x1 x2 r1.1 v5 undefV h4))))))
theorem rp115 (C : Nat → List V → H → Rr) (k : Nat) : dn C k c115 (rQ115 C k) = fun e h => (rK115 C k (e 0) (e 1) (e 2) h) := by
  refine Eq.trans (rseq_eq (rseq_eq (rp115_1 C k) (rseq_eq (rp115_2 C k) (rregion_eq (rapp_eq (rgrp_eq2 10 false rfl (rp115_9 C k) rfl) rfl)))) rfl) ?_
  kernel_rfl
def F115 : RF := fun C k a h => match a with
  | [a0, a1, a2] => rK115 C k a0 a1 a2 h
  | _ => none
theorem ro115 : RunOK IP 115 F115 := ⟨ir115, ip115, by kernel_rfl, fun C k a h r e => by
  unfold F115 at e
  split at e
  · exact ⟨by kernel_rfl, (congrFun (congrFun (rp115 C k) _) h).trans e⟩
  · cases e⟩
theorem ip117 : IP 117 = some ir117 := rfl
def rQ117 (C : Nat → List V → H → Rr) (k : Nat) : X → E → H → Rr := Qrr rs117
def rK117 (C : Nat → List V → H → Rr) (k : Nat) (x0 : V) (h : H) : Rr := (rB (foldO max2 x0 [(.i .i64 1)]) fun v1 => (rB (foldO min2 v1 [(.i .i64 16)]) fun v2 => (some (v2, h))))
theorem rp117 (C : Nat → List V → H → Rr) (k : Nat) : dn C k c117 (rQ117 C k) = fun e h => (rK117 C k (e 0) h) := by kernel_rfl
def F117 : RF := fun C k a h => match a with
  | [a0] => rK117 C k a0 h
  | _ => none
theorem ro117 : RunOK IP 117 F117 := ⟨ir117, ip117, by kernel_rfl, fun C k a h r e => by
  unfold F117 at e
  split at e
  · exact ⟨by kernel_rfl, (congrFun (congrFun (rp117 C k) _) h).trans e⟩
  · cases e⟩
theorem ip124 : IP 124 = some ir124 := rfl
def rQ124 (C : Nat → List V → H → Rr) (k : Nat) : X → E → H → Rr := Qrr rs124
def rK124 (C : Nat → List V → H → Rr) (k : Nat) (x0 x1 : V) (h : H) : Rr := (rB (vBox x0 h) fun r1 => (rB (vLdA r1.2 2 r1.1) fun v2 => (rK (C 149 [v2] r1.2) fun v3 h4 => (rB (un .not v3) fun v5 => (rS v5 (some ((.i .u64 0), h4)) (rB (vFa 0 r1.1) fun v6 => (rB (vLd1 h4 v6) fun v7 => (rB (bin .shr x1 v7) fun v8 => (rB (vLdA h4 2 r1.1) fun v9 => (rK (C 151 [v9] h4) fun v10 h11 => (rB (bin .and v8 v10) fun v12 => (rC (stdy false 1 v6 h4 h11) (some (v12, h11))))))))))))))
theorem rp124 (C : Nat → List V → H → Rr) (k : Nat) : dn C k c124 (rQ124 C k) = fun e h => (rK124 C k (e 0) (e 1) h) := by kernel_rfl
def F124 : RF := fun C k a h => match a with
  | [a0, a1] => rK124 C k a0 a1 h
  | _ => none
theorem ro124 : RunOK IP 124 F124 := ⟨ir124, ip124, by kernel_rfl, fun C k a h r e => by
  unfold F124 at e
  split at e
  · exact ⟨by kernel_rfl, (congrFun (congrFun (rp124 C k) _) h).trans e⟩
  · cases e⟩
theorem ip129 : IP 129 = some ir129 := rfl
def rQ129 (C : Nat → List V → H → Rr) (k : Nat) : X → E → H → Rr := Qrr rs129
def rQ129_1 (C : Nat → List V → H → Rr) (k : Nat) : X → E → H → Rr := (rQ129 C k)
def rQ129_2 (C : Nat → List V → H → Rr) (k : Nat) : X → E → H → Rr := (rQ129_1 C k)
def rK129_2 (C : Nat → List V → H → Rr) (k : Nat) (h : H) : Rr := (some ((.b true), h))
def rJ129_2 (C : Nat → List V → H → Rr) (k : Nat) : E → H → Rr := fun e h => (rK129_2 C k h)
theorem rp129_2 (C : Nat → List V → H → Rr) (k : Nat) : dn C k c129_2 (rQ129_2 C k) = (rJ129_2 C k) := by kernel_rfl
def rK129_1 (C : Nat → List V → H → Rr) (k : Nat) (x0 x1 : V) (h : H) : Rr := (rB (vNilc x0) fun v1 => (rB (vFa 1 v1) fun v2 => (rB (vLd1 h v2) fun v3 => (rK (C 157 [v3, x1] h) fun v4 h5 => (rB (un .not v4) fun v6 => (rS v6 (rB (vNilc x0) fun v7 => (rB (vFa 1 v7) fun v8 => (rB (vLd1 h5 v8) fun v9 => (rB (vNewSl 1 [(.i .i64 0)] [(0, 1, x1)] h5) fun r10 => (rB (vApp 1 8 v9 r10.1 r10.2) fun r11 => (rB (vNilc x0) fun v12 => (rB (vFa 1 v12) fun v13 => (rB (vStore r11.2 1 v13 r11.1) fun r14 => (rK129_2 C k r14.2))))))))) (rK129_2 C k h5)))))))
def rJ129_1 (C : Nat → List V → H → Rr) (k : Nat) : E → H → Rr := fun e h => (rK129_1 C k (e 0) (e 1) h)
theorem rp129_1 (C : Nat → List V → H → Rr) (k : Nat) : dn C k c129_1 (rQ129_1 C k) = (rJ129_1 C k) := by
  refine Eq.trans (rseq_eq (rp129_2 C k) rfl) ?_
  kernel_rfl
def rQ129_3 (C : Nat → List V → H → Rr) (k : Nat) : X → E → H → Rr := (Qxr (rJ129_1 C k) (rQ129 C k))
def rK129_3 (C : Nat → List V → H → Rr) (k : Nat) (x0 x1 x17 : V) (h : H) : Rr := (rS x17 (rB (vNilc x0) fun v1 => (rB (vFa 2 v1) fun v2 => (rB (vLd1 h v2) fun v3 => (rB (bin .add v3 (.i .i64 1)) fun v4 => (rB (vNilc x0) fun v5 => (rB (vFa 2 v5) fun v6 => (rB (vStore h 1 v6 v4) fun r7 => (some ((.b false), r7.2))))))))) (rK129_1 C k x0 x1 h))
def rJ129_3 (C : Nat → List V → H → Rr) (k : Nat) : E → H → Rr := fun e h => (rK129_3 C k (e 0) (e 1) (e 17) h)
theorem rp129_3 (C : Nat → List V → H → Rr) (k : Nat) : dn C k c129_3 (rQ129_3 C k) = (rJ129_3 C k) := by kernel_rfl
def rS129_7 (C : Nat → List V → H → Rr) (k : Nat) : E → H → Rr := ((Qxr (rJ129_3 C k) (Qxr (rJ129_1 C k) (rQ129 C k))) X.normal)
def rK129_7 (C : Nat → List V → H → Rr) (k : Nat) (x0 x1 x9 x16 : V) (h : H) : Rr := (rB (vPick x9 (.b true) x16) fun v1 => (rK129_3 C k x0 x1 v1 h))
def rJ129_7 (C : Nat → List V → H → Rr) (k : Nat) : E → H → Rr := fun e h => (rK129_7 C k (e 0) (e 1) (e 9) (e 16) h)
theorem rp129_7 (C : Nat → List V → H → Rr) (k : Nat) : dnOps C o129_4 (rS129_7 C k) = (rJ129_7 C k) := by
  refine Eq.trans (rapp_eq rfl rfl) ?_
  kernel_rfl
def rK129 (C : Nat → List V → H → Rr) (k : Nat) (x0 x1 : V) (h : H) : Rr := (rB (vEqz false .p x0 (.p none)) fun v1 => (rS v1 (some ((.b false), h)) (rB (bin .lss x1 (.i .i64 0)) fun v2 => (rG v2 false (rB (vNilc x0) fun v3 => (rB (vFa 0 v3) fun v4 => (rB (vLd1 h v4) fun v5 => (rB (vLens v5) fun v6 => (rB (bin .geq x1 v6) fun v7 => (rK129_7 C k x0 x1 v2 v7 h)))))) (rK129_7 C k x0 x1 v2 undefV h)))))
theorem rp129 (C : Nat → List V → H → Rr) (k : Nat) : dn C k c129 (rQ129 C k) = fun e h => (rK129 C k (e 0) (e 1) h) := by
  refine Eq.trans (rseq_eq (rseq_eq (rseq_eq (rp129_1 C k) (rseq_eq (rp129_3 C k) (rregion_eq (rapp_eq (rgrp_eq2 9 false rfl (rp129_7 C k) rfl) rfl)))) rfl) rfl) ?_
  kernel_rfl
def F129 : RF := fun C k a h => match a with
  | [a0, a1] => rK129 C k a0 a1 h
  | _ => none
theorem ro129 : RunOK IP 129 F129 := ⟨ir129, ip129, by kernel_rfl, fun C k a h r e => by
  unfold F129 at e
  split at e
  · exact ⟨by kernel_rfl, (congrFun (congrFun (rp129 C k) _) h).trans e⟩
  · cases e⟩
theorem ip130 : IP 130 = some ir130 := rfl
def rQ130 (C : Nat → List V → H → Rr) (k : Nat) : X → E → H → Rr := Qrr rs130
def rQ130_1 (C : Nat → List V → H → Rr) (k : Nat) : X → E → H → Rr := (rQ130 C k)
def rK130_1 (C : Nat → List V → H → Rr) (k : Nat) (h : H) : Rr := (some ((.i .i64 (-1)), h))
def rJ130_1 (C : Nat → List V → H → Rr) (k : Nat) : E → H → Rr := fun e h => (rK130_1 C k h)
theorem rp130_1 (C : Nat → List V → H → Rr) (k : Nat) : dn C k c130_1 (rQ130_1 C k) = (rJ130_1 C k) := by kernel_rfl
def rR130_2 (C : Nat → List V → H → Rr) (k : Nat) : X → E → H → Rr := (Qbr 0 (Qxr (rJ130_1 C k) (rQ130 C k)))
def rQ130_2 (C : Nat → List V → H → Rr) (k : Nat) (g130_2 : V → V → V → V → H → Rr) : X → E → H → Rr := Qxr (fun e h => g130_2 (e 0) (e 1) (e 7) (e 8) h) (rR130_2 C k)
def rL130_2 (C : Nat → List V → H → Rr) (k : Nat) (g130_2 : V → V → V → V → H → Rr) (x0 x1 x7 x8 : V) (h : H) : Rr := (rB (bin .lss x8 x7) fun v1 => (rS v1 (rB (vIa 1 x0 x8) fun v2 => (rB (vLd1 h v2) fun v3 => (rK (rV C x1 [v3] h) fun v4 h5 => (rS v4 (some (x8, h5)) (rB (bin .add x8 (.i .i64 1)) fun v6 => (g130_2 x0 x1 x7 v6 h5)))))) (rK130_1 C k h)))
theorem rp130_2 (C : Nat → List V → H → Rr) (k : Nat) (g130_2 : V → V → V → V → H → Rr) : dn C k c130_2 (rQ130_2 C k g130_2) = fun e h => (rL130_2 C k g130_2 (e 0) (e 1) (e 7) (e 8) h) := by kernel_rfl
def rW130_2 (C : Nat → List V → H → Rr) (k : Nat) (x0 x1 x7 x8 : V) (h : H) : Rr := rFix k (fun (g : V × V × V × V × Unit → H → Rr) (x : V × V × V × V × Unit) h => rL130_2 C k (fun y0 y1 y7 y8 h => g (y0, y1, y7, y8, ()) h) x.1 x.2.1 x.2.2.1 x.2.2.2.1 h) (x0, x1, x7, x8, ()) h
theorem rn130_2 (C : Nat → List V → H → Rr) (k : Nat) : ∀ g : V × V × V × V × Unit → H → Rr, dn C k c130_2 (Qxr (fun e h => g ((fun e : E => ((e 0, e 1, e 7, e 8, ()) : V × V × V × V × Unit)) e) h) (rR130_2 C k)) = fun e h => (fun (g : V × V × V × V × Unit → H → Rr) (x : V × V × V × V × Unit) h => rL130_2 C k (fun y0 y1 y7 y8 h => g (y0, y1, y7, y8, ()) h) x.1 x.2.1 x.2.2.1 x.2.2.2.1 h) g ((fun e : E => ((e 0, e 1, e 7, e 8, ()) : V × V × V × V × Unit)) e) h := fun g => rp130_2 C k (fun y0 y1 y7 y8 h => g (y0, y1, y7, y8, ()) h)
theorem rw130_2 (C : Nat → List V → H → Rr) (k : Nat) : dn C k (.loop c130_2) (rR130_2 C k) = fun e h => (rW130_2 C k (e 0) (e 1) (e 7) (e 8) h) := rloop_eq (fun e : E => ((e 0, e 1, e 7, e 8, ()) : V × V × V × V × Unit)) (fun (g : V × V × V × V × Unit → H → Rr) (x : V × V × V × V × Unit) h => rL130_2 C k (fun y0 y1 y7 y8 h => g (y0, y1, y7, y8, ()) h) x.1 x.2.1 x.2.2.1 x.2.2.2.1 h) (rn130_2 C k)
def rK130 (C : Nat → List V → H → Rr) (k : Nat) (x0 x1 : V) (h : H) : Rr := (rB (vLens x0) fun v1 => (rW130_2 C k x0 x1 v1 (.i .i64 0) h))
theorem rp130 (C : Nat → List V → H → Rr) (k : Nat) : dn C k c130 (rQ130 C k) = fun e h => (rK130 C k (e 0) (e 1) h) := by
  refine Eq.trans (rseq_eq (rseq_eq (rp130_1 C k) (rseq_eq (rblock_eq (rw130_2 C k)) rfl)) rfl) ?_
  kernel_rfl
def F130 : RF := fun C k a h => match a with
  | [a0, a1] => rK130 C k a0 a1 h
  | _ => none
theorem ro130 : RunOK IP 130 F130 := ⟨ir130, ip130, by kernel_rfl, fun C k a h r e => by
  unfold F130 at e
  split at e
  · exact ⟨by kernel_rfl, (congrFun (congrFun (rp130 C k) _) h).trans e⟩
  · cases e⟩
theorem ip131 : IP 131 = some ir131 := rfl
def rQ131 (C : Nat → List V → H → Rr) (k : Nat) : X → E → H → Rr := Qrr rs131
def rK131 (C : Nat → List V → H → Rr) (k : Nat) (x0 x1 : V) (h : H) : Rr := (rB (vNilc x0) fun v1 => (rB (vFa 0 v1) fun v2 => (rB (vFa 5 v2) fun v3 => (rB (vLd1 h v3) fun v4 => (rB (vLd1 h x1) fun v5 => (rB (bin .eql v4 v5) fun v6 => (some (v6, h))))))))
theorem rp131 (C : Nat → List V → H → Rr) (k : Nat) : dn C k c131 (rQ131 C k) = fun e h => (rK131 C k (e 0) (e 1) h) := by kernel_rfl
def F131 : RF := fun C k a h => match a with
  | [a0, a1] => rK131 C k a0 a1 h
  | _ => none
theorem ro131 : RunOK IP 131 F131 := ⟨ir131, ip131, by kernel_rfl, fun C k a h r e => by
  unfold F131 at e
  split at e
  · exact ⟨by kernel_rfl, (congrFun (congrFun (rp131 C k) _) h).trans e⟩
  · cases e⟩
theorem ip133 : IP 133 = some ir133 := rfl
def Q133 [q : Hid (V → H → Prop)] : X → E → H → Prop := Qr rs133 q.un
def S133_12 [q : Hid (V → H → Prop)] : E → H → Prop := ((Qx (den IP .ret (@Q133 q)) (@Q133 q)) X.normal)
def K133_12 (x29 x32 : V) (h : H) [q : Hid (V → H → Prop)] : Prop := @Bnd V (vPick x29 x32 (.b false)) ⟨fun v1 => @Hid.un (V → H → Prop) q v1 h⟩
def J133_12 [q : Hid (V → H → Prop)] : E → H → Prop := fun e h => @K133_12 (e 29) (e 32) h q
theorem p133_12 [q : Hid (V → H → Prop)] : denOps IP o133_1 (@S133_12 q) = (@J133_12 q) := by
  refine Eq.trans (app_eq rfl rfl) ?_
  kernel_rfl
def S133_13 [q : Hid (V → H → Prop)] : E → H → Prop := ((Qx (den IP .ret (@Q133 q)) (@Q133 q)) X.normal)
def K133_13 (x1 x24 x27 : V) (h : H) [q : Hid (V → H → Prop)] : Prop := @Bnd V (vPick x24 x27 (.b false)) ⟨fun v1 => @Grd v1 true ⟨@Bnd V (vFa 2 x1) ⟨fun v2 => @Bnd V (vLd1 h v2) ⟨fun v3 => @Bnd V (bin .leq v3 (.i .i64 16777215)) ⟨fun v4 => @K133_12 v1 v4 h q⟩⟩⟩⟩ ⟨@K133_12 v1 undefV h q⟩⟩
def J133_13 [q : Hid (V → H → Prop)] : E → H → Prop := fun e h => @K133_13 (e 1) (e 24) (e 27) h q
theorem p133_13 [q : Hid (V → H → Prop)] : denOps IP o133_3 (@S133_13 q) = (@J133_13 q) := by
  refine Eq.trans (app_eq (grp_eq2 29 true rfl (@p133_12 q) rfl) rfl) ?_
  kernel_rfl
def S133_14 [q : Hid (V → H → Prop)] : E → H → Prop := ((Qx (den IP .ret (@Q133 q)) (@Q133 q)) X.normal)
def K133_14 (x1 x16 x22 : V) (h : H) [q : Hid (V → H → Prop)] : Prop := @Bnd V (vPick x16 x22 (.b false)) ⟨fun v1 => @Grd v1 true ⟨@Bnd V (vFa 2 x1) ⟨fun v2 => @Bnd V (vLd1 h v2) ⟨fun v3 => @Bnd V (bin .geq v3 (.i .i64 1)) ⟨fun v4 => @K133_13 x1 v1 v4 h q⟩⟩⟩⟩ ⟨@K133_13 x1 v1 undefV h q⟩⟩
def J133_14 [q : Hid (V → H → Prop)] : E → H → Prop := fun e h => @K133_14 (e 1) (e 16) (e 22) h q
theorem p133_14 [q : Hid (V → H → Prop)] : denOps IP o133_5 (@S133_14 q) = (@J133_14 q) := by
  refine Eq.trans (app_eq (grp_eq2 24 true rfl (@p133_13 q) rfl) rfl) ?_
  kernel_rfl
def S133_15 [q : Hid (V → H → Prop)] : E → H → Prop := ((Qx (den IP .ret (@Q133 q)) (@Q133 q)) X.normal)
def K133_15 (x1 x11 x14 : V) (h : H) [q : Hid (V → H → Prop)] : Prop := @Bnd V (vPick x11 x14 (.b false)) ⟨fun v1 => @Grd v1 true ⟨@Bnd V (vFa 0 x1) ⟨fun v2 => @Bnd V (vLd1 h v2) ⟨fun v3 => @Bnd V (vFa 1 x1) ⟨fun v4 => @Bnd V (vLd1 h v4) ⟨fun v5 => @Bnd V (bin .sub (.i .i64 16384) v5) ⟨fun v6 => @Bnd V (bin .leq v3 v6) ⟨fun v7 => @K133_14 x1 v1 v7 h q⟩⟩⟩⟩⟩⟩⟩ ⟨@K133_14 x1 v1 undefV h q⟩⟩
def J133_15 [q : Hid (V → H → Prop)] : E → H → Prop := fun e h => @K133_15 (e 1) (e 11) (e 14) h q
theorem p133_15 [q : Hid (V → H → Prop)] : denOps IP o133_7 (@S133_15 q) = (@J133_15 q) := by
  refine Eq.trans (app_eq (grp_eq2 16 true rfl (@p133_14 q) rfl) rfl) ?_
  kernel_rfl
def S133_16 [q : Hid (V → H → Prop)] : E → H → Prop := ((Qx (den IP .ret (@Q133 q)) (@Q133 q)) X.normal)
def K133_16 (x1 x6 x9 : V) (h : H) [q : Hid (V → H → Prop)] : Prop := @Bnd V (vPick x6 x9 (.b false)) ⟨fun v1 => @Grd v1 true ⟨@Bnd V (vFa 0 x1) ⟨fun v2 => @Bnd V (vLd1 h v2) ⟨fun v3 => @Bnd V (bin .geq v3 (.i .i64 0)) ⟨fun v4 => @K133_15 x1 v1 v4 h q⟩⟩⟩⟩ ⟨@K133_15 x1 v1 undefV h q⟩⟩
def J133_16 [q : Hid (V → H → Prop)] : E → H → Prop := fun e h => @K133_16 (e 1) (e 6) (e 9) h q
theorem p133_16 [q : Hid (V → H → Prop)] : denOps IP o133_9 (@S133_16 q) = (@J133_16 q) := by
  refine Eq.trans (app_eq (grp_eq2 11 true rfl (@p133_15 q) rfl) rfl) ?_
  kernel_rfl
def K133 (x0 : V) (h : H) [q : Hid (V → H → Prop)] : Prop := @Bnd (V × H) (vBox x0 h) ⟨fun r1 => @Bnd V (vFa 1 r1.1) ⟨fun v2 => @Bnd V (vLd1 r1.2 v2) ⟨fun v3 => @Bnd V (bin .geq v3 (.i .i64 1)) ⟨fun v4 => @Grd v4 true ⟨@Bnd V (vFa 1 r1.1) ⟨fun v5 => @Bnd V (vLd1 r1.2 v5) ⟨fun v6 => @Bnd V (bin .leq v6 (.i .i64 16)) ⟨fun v7 => @K133_16 r1.1 v4 v7 r1.2 q⟩⟩⟩⟩ ⟨@K133_16 r1.1 v4 undefV r1.2 q⟩⟩⟩⟩⟩
theorem p133 [q : Hid (V → H → Prop)] : den IP c133 (@Q133 q) = fun e h => @K133 (e 0) h q := by
  refine Eq.trans (seq_eq (seq_eq rfl (region_eq (app_eq (grp_eq2 6 true rfl (@p133_16 q) rfl) rfl))) rfl) ?_
  kernel_rfl
theorem f133 (a0 : V) (h : H) (Q : V → H → Prop) : @wF IP 133 [a0] h ⟨Q⟩ ↔ @K133 a0 h ⟨Q⟩ := (Fnc_den (ip133) (by kernel_rfl) (by kernel_rfl) h Q).trans (iff_of_eq (congrFun (congrFun (@p133 ⟨Q⟩) _) h))
def rQ133 (C : Nat → List V → H → Rr) (k : Nat) : X → E → H → Rr := Qrr rs133
def rS133_12 (C : Nat → List V → H → Rr) (k : Nat) : E → H → Rr := ((Qxr (dn C k .ret (rQ133 C k)) (rQ133 C k)) X.normal)
def rK133_12 (C : Nat → List V → H → Rr) (k : Nat) (x29 x32 : V) (h : H) : Rr := (rB (vPick x29 x32 (.b false)) fun v1 => (some (v1, h)))
def rJ133_12 (C : Nat → List V → H → Rr) (k : Nat) : E → H → Rr := fun e h => (rK133_12 C k (e 29) (e 32) h)
theorem rp133_12 (C : Nat → List V → H → Rr) (k : Nat) : dnOps C o133_1 (rS133_12 C k) = (rJ133_12 C k) := by
  refine Eq.trans (rapp_eq rfl rfl) ?_
  kernel_rfl
def rS133_13 (C : Nat → List V → H → Rr) (k : Nat) : E → H → Rr := ((Qxr (dn C k .ret (rQ133 C k)) (rQ133 C k)) X.normal)
def rK133_13 (C : Nat → List V → H → Rr) (k : Nat) (x1 x24 x27 : V) (h : H) : Rr := (rB (vPick x24 x27 (.b false)) fun v1 => (rG v1 true (rB (vFa 2 x1) fun v2 => (rB (vLd1 h v2) fun v3 => (rB (bin .leq v3 (.i .i64 16777215)) fun v4 => (rK133_12 C k v1 v4 h)))) (rK133_12 C k v1 undefV h)))
def rJ133_13 (C : Nat → List V → H → Rr) (k : Nat) : E → H → Rr := fun e h => (rK133_13 C k (e 1) (e 24) (e 27) h)
theorem rp133_13 (C : Nat → List V → H → Rr) (k : Nat) : dnOps C o133_3 (rS133_13 C k) = (rJ133_13 C k) := by
  refine Eq.trans (rapp_eq (rgrp_eq2 29 true rfl (rp133_12 C k) rfl) rfl) ?_
  kernel_rfl
def rS133_14 (C : Nat → List V → H → Rr) (k : Nat) : E → H → Rr := ((Qxr (dn C k .ret (rQ133 C k)) (rQ133 C k)) X.normal)
def rK133_14 (C : Nat → List V → H → Rr) (k : Nat) (x1 x16 x22 : V) (h : H) : Rr := (rB (vPick x16 x22 (.b false)) fun v1 => (rG v1 true (rB (vFa 2 x1) fun v2 => (rB (vLd1 h v2) fun v3 => (rB (bin .geq v3 (.i .i64 1)) fun v4 => (rK133_13 C k x1 v1 v4 h)))) (rK133_13 C k x1 v1 undefV h)))
def rJ133_14 (C : Nat → List V → H → Rr) (k : Nat) : E → H → Rr := fun e h => (rK133_14 C k (e 1) (e 16) (e 22) h)
theorem rp133_14 (C : Nat → List V → H → Rr) (k : Nat) : dnOps C o133_5 (rS133_14 C k) = (rJ133_14 C k) := by
  refine Eq.trans (rapp_eq (rgrp_eq2 24 true rfl (rp133_13 C k) rfl) rfl) ?_
  kernel_rfl
def rS133_15 (C : Nat → List V → H → Rr) (k : Nat) : E → H → Rr := ((Qxr (dn C k .ret (rQ133 C k)) (rQ133 C k)) X.normal)
def rK133_15 (C : Nat → List V → H → Rr) (k : Nat) (x1 x11 x14 : V) (h : H) : Rr := (rB (vPick x11 x14 (.b false)) fun v1 => (rG v1 true (rB (vFa 0 x1) fun v2 => (rB (vLd1 h v2) fun v3 => (rB (vFa 1 x1) fun v4 => (rB (vLd1 h v4) fun v5 => (rB (bin .sub (.i .i64 16384) v5) fun v6 => (rB (bin .leq v3 v6) fun v7 => (rK133_14 C k x1 v1 v7 h))))))) (rK133_14 C k x1 v1 undefV h)))
def rJ133_15 (C : Nat → List V → H → Rr) (k : Nat) : E → H → Rr := fun e h => (rK133_15 C k (e 1) (e 11) (e 14) h)
theorem rp133_15 (C : Nat → List V → H → Rr) (k : Nat) : dnOps C o133_7 (rS133_15 C k) = (rJ133_15 C k) := by
  refine Eq.trans (rapp_eq (rgrp_eq2 16 true rfl (rp133_14 C k) rfl) rfl) ?_
  kernel_rfl
def rS133_16 (C : Nat → List V → H → Rr) (k : Nat) : E → H → Rr := ((Qxr (dn C k .ret (rQ133 C k)) (rQ133 C k)) X.normal)
def rK133_16 (C : Nat → List V → H → Rr) (k : Nat) (x1 x6 x9 : V) (h : H) : Rr := (rB (vPick x6 x9 (.b false)) fun v1 => (rG v1 true (rB (vFa 0 x1) fun v2 => (rB (vLd1 h v2) fun v3 => (rB (bin .geq v3 (.i .i64 0)) fun v4 => (rK133_15 C k x1 v1 v4 h)))) (rK133_15 C k x1 v1 undefV h)))
def rJ133_16 (C : Nat → List V → H → Rr) (k : Nat) : E → H → Rr := fun e h => (rK133_16 C k (e 1) (e 6) (e 9) h)
theorem rp133_16 (C : Nat → List V → H → Rr) (k : Nat) : dnOps C o133_9 (rS133_16 C k) = (rJ133_16 C k) := by
  refine Eq.trans (rapp_eq (rgrp_eq2 11 true rfl (rp133_15 C k) rfl) rfl) ?_
  kernel_rfl
def rK133 (C : Nat → List V → H → Rr) (k : Nat) (x0 : V) (h : H) : Rr := (rB (vBox x0 h) fun r1 => (rB (vFa 1 r1.1) fun v2 => (rB (vLd1 r1.2 v2) fun v3 => (rB (bin .geq v3 (.i .i64 1)) fun v4 => (rG v4 true (rB (vFa 1 r1.1) fun v5 => (rB (vLd1 r1.2 v5) fun v6 => (rB (bin .leq v6 (.i .i64 16)) fun v7 => (rK133_16 C k r1.1 v4 v7 r1.2)))) (rK133_16 C k r1.1 v4 undefV r1.2))))))
theorem rp133 (C : Nat → List V → H → Rr) (k : Nat) : dn C k c133 (rQ133 C k) = fun e h => (rK133 C k (e 0) h) := by
  refine Eq.trans (rseq_eq (rseq_eq rfl (rregion_eq (rapp_eq (rgrp_eq2 6 true rfl (rp133_16 C k) rfl) rfl))) rfl) ?_
  kernel_rfl
def F133 : RF := fun C k a h => match a with
  | [a0] => rK133 C k a0 h
  | _ => none
theorem ro133 : RunOK IP 133 F133 := ⟨ir133, ip133, by kernel_rfl, fun C k a h r e => by
  unfold F133 at e
  split at e
  · exact ⟨by kernel_rfl, (congrFun (congrFun (rp133 C k) _) h).trans e⟩
  · cases e⟩
theorem ip134 : IP 134 = some ir134 := rfl
def Q134 [q : Hid (V → H → Prop)] : X → E → H → Prop := Qr rs134 q.un
def Q134_1 [q : Hid (V → H → Prop)] : X → E → H → Prop := (@Q134 q)
def K134_1 (x3 : V) (h : H) [q : Hid (V → H → Prop)] : Prop := @Hid.un (V → H → Prop) q x3 h
def J134_1 [q : Hid (V → H → Prop)] : E → H → Prop := fun e h => @K134_1 (e 3) h q
theorem p134_1 [q : Hid (V → H → Prop)] : den IP c134_1 (@Q134_1 q) = (@J134_1 q) := by kernel_rfl
def R134_2 [q : Hid (V → H → Prop)] : X → E → H → Prop := (Qb 0 (Qx (@J134_1 q) (@Q134 q)))
def Q134_2 [q : Hid (V → H → Prop)] [g134_2 : Hid (V → V → V → H → Prop)] : X → E → H → Prop := Qx (fun e h => g134_2.un (e 3) (e 16) (e 17) h) (@R134_2 q)
def L134_2 (x3 x16 x17 : V) (h : H) [q : Hid (V → H → Prop)] [g134_2 : Hid (V → V → V → H → Prop)] : Prop := @Bnd V (bin .lss x17 x16) ⟨fun v1 => @Sel v1 ⟨@Bnd V (vNilc x3) ⟨fun v2 => @Bnd V (vFa 1 v2) ⟨fun v3 => @Bnd V (vLd1 h v3) ⟨fun v4 => @Bnd V (vNilc x3) ⟨fun v5 => @Bnd V (vFa 4 v5) ⟨fun v6 => @Bnd V (vLd1 h v6) ⟨fun v7 => @Bnd V (vIa 1 v4 x17) ⟨fun v8 => @Bnd (V × H) (vStore h 1 v8 x17) ⟨fun r9 => @Bnd V (vIa 1 v7 x17) ⟨fun v10 => @Bnd (V × H) (vStore r9.2 1 v10 (.b true)) ⟨fun r11 => @Bnd V (bin .add x17 (.i .i64 1)) ⟨fun v12 => @Hid.un (V → V → V → H → Prop) g134_2 x3 x16 v12 r11.2⟩⟩⟩⟩⟩⟩⟩⟩⟩⟩⟩⟩ ⟨@K134_1 x3 h q⟩⟩
theorem p134_2 [q : Hid (V → H → Prop)] [g134_2 : Hid (V → V → V → H → Prop)] : den IP c134_2 (@Q134_2 q g134_2) = fun e h => @L134_2 (e 3) (e 16) (e 17) h q g134_2 := by kernel_rfl
def W134_2 (x3 x16 x17 : V) (h : H) [q : Hid (V → H → Prop)] : Prop := wFix (fun (g : V × V × V × Unit → H → Prop) (x : V × V × V × Unit) h => @L134_2 x.1 x.2.1 x.2.2.1 h q ⟨fun y3 y16 y17 h => g (y3, y16, y17, ()) h⟩) (x3, x16, x17, ()) h
theorem n134_2 [q : Hid (V → H → Prop)] : ∀ g : V × V × V × Unit → H → Prop, den IP c134_2 (Qx (fun e h => g ((fun e : E => ((e 3, e 16, e 17, ()) : V × V × V × Unit)) e) h) (@R134_2 q)) = fun e h => (fun (g : V × V × V × Unit → H → Prop) (x : V × V × V × Unit) h => @L134_2 x.1 x.2.1 x.2.2.1 h q ⟨fun y3 y16 y17 h => g (y3, y16, y17, ()) h⟩) g ((fun e : E => ((e 3, e 16, e 17, ()) : V × V × V × Unit)) e) h := fun g => @p134_2 q ⟨fun y3 y16 y17 h => g (y3, y16, y17, ()) h⟩
theorem w134_2 [q : Hid (V → H → Prop)] : den IP (.loop c134_2) (@R134_2 q) = fun e h => @W134_2 (e 3) (e 16) (e 17) h q := loop_eq (fun e : E => ((e 3, e 16, e 17, ()) : V × V × V × Unit)) (fun (g : V × V × V × Unit → H → Prop) (x : V × V × V × Unit) h => @L134_2 x.1 x.2.1 x.2.2.1 h q ⟨fun y3 y16 y17 h => g (y3, y16, y17, ()) h⟩) (@n134_2 q)
theorem m134_2 [q : Hid (V → H → Prop)] : Mono (fun (g : V × V × V × Unit → H → Prop) (x : V × V × V × Unit) h => @L134_2 x.1 x.2.1 x.2.2.1 h q ⟨fun y3 y16 y17 h => g (y3, y16, y17, ()) h⟩) := mono_of (p := (fun e : E => ((e 3, e 16, e 17, ()) : V × V × V × Unit))) (fun x : V × V × V × Unit => upd (upd (upd (fun _ => undefV) 17 (x.2.2.1)) 16 (x.2.1)) 3 (x.1)) (fun _ => rfl) (@n134_2 q)
theorem W134_2_inv {q : Hid (V → H → Prop)} (I : Nat → V → V → V → H → Prop) (step : ∀ n x3 x16 x17 h, I n x3 x16 x17 h → @L134_2 x3 x16 x17 h q ⟨fun y3 y16 y17 h => ∃ m, m < n ∧ I m y3 y16 y17 h⟩) (n : Nat) (x3 x16 x17 : V) (h : H) (hi : I n x3 x16 x17 h) : @W134_2 x3 x16 x17 h q :=
  wFix_inv (@m134_2 q) (fun n x h => I n x.1 x.2.1 x.2.2.1 h) (fun n x h hi => step n x.1 x.2.1 x.2.2.1 h hi) n (x3, x16, x17, ()) h hi
theorem W134_2_eq (x3 x16 x17 : V) (h : H) {q : Hid (V → H → Prop)} : @W134_2 x3 x16 x17 h q ↔ @L134_2 x3 x16 x17 h q ⟨fun y3 y16 y17 h => @W134_2 y3 y16 y17 h q⟩ := wFix_unroll (@m134_2 q) (x3, x16, x17, ()) h
def K134 (x0 : V) (h : H) [q : Hid (V → H → Prop)] : Prop := @Bnd V (foldO max2 x0 [(.i .i64 0)]) ⟨fun v1 => @Bnd V (foldO min2 v1 [(.i .i64 1024)]) ⟨fun v2 => @Bnd (V × H) (vMake 8 [(.i .i64 0)] v2 h) ⟨fun r3 => @Bnd (V × H) (vMake 1 [(.b false)] v2 r3.2) ⟨fun r4 => @Bnd V (vBld [(.i .i64 0), .nsl, (.i .i64 0), (.i .i64 0), .nsl] [(0, 1, v2), (1, 1, r3.1), (3, 1, v2), (4, 1, r4.1)]) ⟨fun v5 => @Bnd (V × H) (vBox v5 r4.2) ⟨fun r6 => @W134_2 r6.1 v2 (.i .i64 0) r6.2 q⟩⟩⟩⟩⟩⟩
theorem p134 [q : Hid (V → H → Prop)] : den IP c134 (@Q134 q) = fun e h => @K134 (e 0) h q := by
  refine Eq.trans (seq_eq (seq_eq (seq_eq (seq_eq (@p134_1 q) (seq_eq (block_eq (@w134_2 q)) rfl)) rfl) rfl) rfl) ?_
  kernel_rfl
theorem f134 (a0 : V) (h : H) (Q : V → H → Prop) : @wF IP 134 [a0] h ⟨Q⟩ ↔ @K134 a0 h ⟨Q⟩ := (Fnc_den (ip134) (by kernel_rfl) (by kernel_rfl) h Q).trans (iff_of_eq (congrFun (congrFun (@p134 ⟨Q⟩) _) h))
def rQ134 (C : Nat → List V → H → Rr) (k : Nat) : X → E → H → Rr := Qrr rs134
def rQ134_1 (C : Nat → List V → H → Rr) (k : Nat) : X → E → H → Rr := (rQ134 C k)
def rK134_1 (C : Nat → List V → H → Rr) (k : Nat) (x3 : V) (h : H) : Rr := (some (x3, h))
def rJ134_1 (C : Nat → List V → H → Rr) (k : Nat) : E → H → Rr := fun e h => (rK134_1 C k (e 3) h)
theorem rp134_1 (C : Nat → List V → H → Rr) (k : Nat) : dn C k c134_1 (rQ134_1 C k) = (rJ134_1 C k) := by kernel_rfl
def rR134_2 (C : Nat → List V → H → Rr) (k : Nat) : X → E → H → Rr := (Qbr 0 (Qxr (rJ134_1 C k) (rQ134 C k)))
def rQ134_2 (C : Nat → List V → H → Rr) (k : Nat) (g134_2 : V → V → V → H → Rr) : X → E → H → Rr := Qxr (fun e h => g134_2 (e 3) (e 16) (e 17) h) (rR134_2 C k)
def rL134_2 (C : Nat → List V → H → Rr) (k : Nat) (g134_2 : V → V → V → H → Rr) (x3 x16 x17 : V) (h : H) : Rr := (rB (bin .lss x17 x16) fun v1 => (rS v1 (rB (vNilc x3) fun v2 => (rB (vFa 1 v2) fun v3 => (rB (vLd1 h v3) fun v4 => (rB (vNilc x3) fun v5 => (rB (vFa 4 v5) fun v6 => (rB (vLd1 h v6) fun v7 => (rB (vIa 1 v4 x17) fun v8 => (rB (vStore h 1 v8 x17) fun r9 => (rB (vIa 1 v7 x17) fun v10 => (rB (vStore r9.2 1 v10 (.b true)) fun r11 => (rB (bin .add x17 (.i .i64 1)) fun v12 => (g134_2 x3 x16 v12 r11.2)))))))))))) (rK134_1 C k x3 h)))
theorem rp134_2 (C : Nat → List V → H → Rr) (k : Nat) (g134_2 : V → V → V → H → Rr) : dn C k c134_2 (rQ134_2 C k g134_2) = fun e h => (rL134_2 C k g134_2 (e 3) (e 16) (e 17) h) := by kernel_rfl
def rW134_2 (C : Nat → List V → H → Rr) (k : Nat) (x3 x16 x17 : V) (h : H) : Rr := rFix k (fun (g : V × V × V × Unit → H → Rr) (x : V × V × V × Unit) h => rL134_2 C k (fun y3 y16 y17 h => g (y3, y16, y17, ()) h) x.1 x.2.1 x.2.2.1 h) (x3, x16, x17, ()) h
theorem rn134_2 (C : Nat → List V → H → Rr) (k : Nat) : ∀ g : V × V × V × Unit → H → Rr, dn C k c134_2 (Qxr (fun e h => g ((fun e : E => ((e 3, e 16, e 17, ()) : V × V × V × Unit)) e) h) (rR134_2 C k)) = fun e h => (fun (g : V × V × V × Unit → H → Rr) (x : V × V × V × Unit) h => rL134_2 C k (fun y3 y16 y17 h => g (y3, y16, y17, ()) h) x.1 x.2.1 x.2.2.1 h) g ((fun e : E => ((e 3, e 16, e 17, ()) : V × V × V × Unit)) e) h := fun g => rp134_2 C k (fun y3 y16 y17 h => g (y3, y16, y17, ()) h)
theorem rw134_2 (C : Nat → List V → H → Rr) (k : Nat) : dn C k (.loop c134_2) (rR134_2 C k) = fun e h => (rW134_2 C k (e 3) (e 16) (e 17) h) := rloop_eq (fun e : E => ((e 3, e 16, e 17, ()) : V × V × V × Unit)) (fun (g : V × V × V × Unit → H → Rr) (x : V × V × V × Unit) h => rL134_2 C k (fun y3 y16 y17 h => g (y3, y16, y17, ()) h) x.1 x.2.1 x.2.2.1 h) (rn134_2 C k)
def rK134 (C : Nat → List V → H → Rr) (k : Nat) (x0 : V) (h : H) : Rr := (rB (foldO max2 x0 [(.i .i64 0)]) fun v1 => (rB (foldO min2 v1 [(.i .i64 1024)]) fun v2 => (rB (vMake 8 [(.i .i64 0)] v2 h) fun r3 => (rB (vMake 1 [(.b false)] v2 r3.2) fun r4 => (rB (vBld [(.i .i64 0), .nsl, (.i .i64 0), (.i .i64 0), .nsl] [(0, 1, v2), (1, 1, r3.1), (3, 1, v2), (4, 1, r4.1)]) fun v5 => (rB (vBox v5 r4.2) fun r6 => (rW134_2 C k r6.1 v2 (.i .i64 0) r6.2)))))))
theorem rp134 (C : Nat → List V → H → Rr) (k : Nat) : dn C k c134 (rQ134 C k) = fun e h => (rK134 C k (e 0) h) := by
  refine Eq.trans (rseq_eq (rseq_eq (rseq_eq (rseq_eq (rp134_1 C k) (rseq_eq (rblock_eq (rw134_2 C k)) rfl)) rfl) rfl) rfl) ?_
  kernel_rfl
def F134 : RF := fun C k a h => match a with
  | [a0] => rK134 C k a0 h
  | _ => none
theorem ro134 : RunOK IP 134 F134 := ⟨ir134, ip134, by kernel_rfl, fun C k a h r e => by
  unfold F134 at e
  split at e
  · exact ⟨by kernel_rfl, (congrFun (congrFun (rp134 C k) _) h).trans e⟩
  · cases e⟩
theorem ip135 : IP 135 = some ir135 := rfl
def Q135 [q : Hid (V → H → Prop)] : X → E → H → Prop := Qr rs135 q.un
def K135 (x0 : V) (h : H) [q : Hid (V → H → Prop)] : Prop := @Bnd V (foldO max2 x0 [(.i .i64 0)]) ⟨fun v1 => @Bnd V (foldO min2 v1 [(.i .i64 1048576)]) ⟨fun v2 => @Hid.un (V → H → Prop) q v2 h⟩⟩
theorem p135 [q : Hid (V → H → Prop)] : den IP c135 (@Q135 q) = fun e h => @K135 (e 0) h q := by kernel_rfl
theorem f135 (a0 : V) (h : H) (Q : V → H → Prop) : @wF IP 135 [a0] h ⟨Q⟩ ↔ @K135 a0 h ⟨Q⟩ := (Fnc_den (ip135) (by kernel_rfl) (by kernel_rfl) h Q).trans (iff_of_eq (congrFun (congrFun (@p135 ⟨Q⟩) _) h))
def rQ135 (C : Nat → List V → H → Rr) (k : Nat) : X → E → H → Rr := Qrr rs135
def rK135 (C : Nat → List V → H → Rr) (k : Nat) (x0 : V) (h : H) : Rr := (rB (foldO max2 x0 [(.i .i64 0)]) fun v1 => (rB (foldO min2 v1 [(.i .i64 1048576)]) fun v2 => (some (v2, h))))
theorem rp135 (C : Nat → List V → H → Rr) (k : Nat) : dn C k c135 (rQ135 C k) = fun e h => (rK135 C k (e 0) h) := by kernel_rfl
def F135 : RF := fun C k a h => match a with
  | [a0] => rK135 C k a0 h
  | _ => none
theorem ro135 : RunOK IP 135 F135 := ⟨ir135, ip135, by kernel_rfl, fun C k a h r e => by
  unfold F135 at e
  split at e
  · exact ⟨by kernel_rfl, (congrFun (congrFun (rp135 C k) _) h).trans e⟩
  · cases e⟩
theorem ip136 : IP 136 = some ir136 := rfl
def Q136 [q : Hid (V → H → Prop)] : X → E → H → Prop := Qr rs136 q.un
def K136 (x0 : V) (h : H) [q : Hid (V → H → Prop)] : Prop := @Bnd V (foldO max2 x0 [(.i .i64 0)]) ⟨fun v1 => @Bnd V (foldO min2 v1 [(.i .i64 1099511627776)]) ⟨fun v2 => @Hid.un (V → H → Prop) q v2 h⟩⟩
theorem p136 [q : Hid (V → H → Prop)] : den IP c136 (@Q136 q) = fun e h => @K136 (e 0) h q := by kernel_rfl
theorem f136 (a0 : V) (h : H) (Q : V → H → Prop) : @wF IP 136 [a0] h ⟨Q⟩ ↔ @K136 a0 h ⟨Q⟩ := (Fnc_den (ip136) (by kernel_rfl) (by kernel_rfl) h Q).trans (iff_of_eq (congrFun (congrFun (@p136 ⟨Q⟩) _) h))
def rQ136 (C : Nat → List V → H → Rr) (k : Nat) : X → E → H → Rr := Qrr rs136
def rK136 (C : Nat → List V → H → Rr) (k : Nat) (x0 : V) (h : H) : Rr := (rB (foldO max2 x0 [(.i .i64 0)]) fun v1 => (rB (foldO min2 v1 [(.i .i64 1099511627776)]) fun v2 => (some (v2, h))))
theorem rp136 (C : Nat → List V → H → Rr) (k : Nat) : dn C k c136 (rQ136 C k) = fun e h => (rK136 C k (e 0) h) := by kernel_rfl
def F136 : RF := fun C k a h => match a with
  | [a0] => rK136 C k a0 h
  | _ => none
theorem ro136 : RunOK IP 136 F136 := ⟨ir136, ip136, by kernel_rfl, fun C k a h r e => by
  unfold F136 at e
  split at e
  · exact ⟨by kernel_rfl, (congrFun (congrFun (rp136 C k) _) h).trans e⟩
  · cases e⟩
theorem ip137 : IP 137 = some ir137 := rfl
def Q137 [q : Hid (V → H → Prop)] : X → E → H → Prop := Qr rs137 q.un
def K137 (x0 x1 : V) (h : H) [q : Hid (V → H → Prop)] : Prop := @wF IP 136 [x1] h ⟨fun v1 h2 => @Bnd V (foldO max2 v1 [(.i .i64 1)]) ⟨fun v3 => @Bnd V (foldO max2 x0 [(.i .i64 1)]) ⟨fun v4 => @Bnd V (foldO min2 v4 [(.i .i64 16)]) ⟨fun v5 => @Bnd (V × H) (vMake 16 [(.i .i64 0), (.i .i64 0)] v5 h2) ⟨fun r6 => @Bnd V (vBld [(.i .i64 0), .nsl, (.i .i64 0)] [(0, 1, v3), (1, 1, r6.1)]) ⟨fun v7 => @Bnd (V × H) (vBox v7 r6.2) ⟨fun r8 => @Hid.un (V → H → Prop) q r8.1 r8.2⟩⟩⟩⟩⟩⟩⟩
theorem p137 [q : Hid (V → H → Prop)] : den IP c137 (@Q137 q) = fun e h => @K137 (e 0) (e 1) h q := by kernel_rfl
theorem f137 (a0 a1 : V) (h : H) (Q : V → H → Prop) : @wF IP 137 [a0, a1] h ⟨Q⟩ ↔ @K137 a0 a1 h ⟨Q⟩ := (Fnc_den (ip137) (by kernel_rfl) (by kernel_rfl) h Q).trans (iff_of_eq (congrFun (congrFun (@p137 ⟨Q⟩) _) h))
def rQ137 (C : Nat → List V → H → Rr) (k : Nat) : X → E → H → Rr := Qrr rs137
def rK137 (C : Nat → List V → H → Rr) (k : Nat) (x0 x1 : V) (h : H) : Rr := (rK (C 136 [x1] h) fun v1 h2 => (rB (foldO max2 v1 [(.i .i64 1)]) fun v3 => (rB (foldO max2 x0 [(.i .i64 1)]) fun v4 => (rB (foldO min2 v4 [(.i .i64 16)]) fun v5 => (rB (vMake 16 [(.i .i64 0), (.i .i64 0)] v5 h2) fun r6 => (rB (vBld [(.i .i64 0), .nsl, (.i .i64 0)] [(0, 1, v3), (1, 1, r6.1)]) fun v7 => (rB (vBox v7 r6.2) fun r8 => (some (r8.1, r8.2)))))))))
theorem rp137 (C : Nat → List V → H → Rr) (k : Nat) : dn C k c137 (rQ137 C k) = fun e h => (rK137 C k (e 0) (e 1) h) := by kernel_rfl
def F137 : RF := fun C k a h => match a with
  | [a0, a1] => rK137 C k a0 a1 h
  | _ => none
theorem ro137 : RunOK IP 137 F137 := ⟨ir137, ip137, by kernel_rfl, fun C k a h r e => by
  unfold F137 at e
  split at e
  · exact ⟨by kernel_rfl, (congrFun (congrFun (rp137 C k) _) h).trans e⟩
  · cases e⟩
theorem ip142 : IP 142 = some ir142 := rfl
def rQ142 (C : Nat → List V → H → Rr) (k : Nat) : X → E → H → Rr := Qrr rs142
def rQ142_1 (C : Nat → List V → H → Rr) (k : Nat) : X → E → H → Rr := (Qbr 0 (rQ142 C k))
def rK142_1 (C : Nat → List V → H → Rr) (k : Nat) (x0 x1 x4 x5 x34 : V) (h : H) : Rr := (rS x34 (rK (C 171 [x0, (.i .i64 5), (.i .u32 0), x1] h) fun v1 h2 => (some ((.tup []), h2))) (rB (vFa 0 x4) fun v3 => (rB (vLd1 h v3) fun v4 => (rB (bin .eql v4 (.i .i64 1)) fun v5 => (rS v5 (rB (vNilc x0) fun v6 => (rB (vFa 35 v6) fun v7 => (rB (vFa 10 v7) fun v8 => (rB (vStore h 1 v8 x5) fun r9 => (rB (vNilc x0) fun v10 => (rB (vFa 35 v10) fun v11 => (rB (vFa 0 v11) fun v12 => (rB (vStore r9.2 1 v12 (.i .i64 7)) fun r13 => (rB (vNilc x0) fun v14 => (rB (vFa 28 v14) fun v15 => (rB (vLd1 r13.2 v15) fun v16 => (rB (vNilc x5) fun v17 => (rB (vFa 0 v17) fun v18 => (rB (vFa 3 v18) fun v19 => (rB (vLd1 r13.2 v19) fun v20 => (rK (C 143 [v16, v20] r13.2) fun v21 h22 => (rB (vNilc x5) fun v23 => (rB (vFa 0 v23) fun v24 => (rB (vFa 4 v24) fun v25 => (rB (vLd1 h22 v25) fun v26 => (rB (vNilc x0) fun v27 => (rB (vFa 28 v27) fun v28 => (rB (vLd1 h22 v28) fun v29 => (rK (C 173 [v29] h22) fun v30 h31 => (rK (C 172 [v21, v26, v30] h31) fun v32 h33 => (rB (vNilc x0) fun v34 => (rB (vFa 35 v34) fun v35 => (rB (vFa 20 v35) fun v36 => (rB (vStore h33 5 v36 v32) fun r37 => (rC (stdy false 1 v25 r13.2 h22) (rC (stdy false 1 v25 h22 h31) (rC (stdy false 1 v28 r13.2 h22) (some ((.tup []), r37.2)))))))))))))))))))))))))))))))))) (rB (vFa 0 x4) fun v38 => (rB (vLd1 h v38) fun v39 => (rB (bin .eql v39 (.i .i64 2)) fun v40 => (rS v40 (rK (C 174 [x0, x5, x1] h) fun v41 h42 => (some ((.tup []), h42))) (rB (vFa 0 x4) fun v43 => (rB (vLd1 h v43) fun v44 => (rB (bin .eql v44 (.i .i64 3)) fun v45 => (rS v45 (rK (C 175 [x0, x5, x1] h) fun v46 h47 => (some ((.tup []), h47))) (rB (vFa 0 x4) fun v48 => (rB (vLd1 h v48) fun v49 => (rB (bin .eql v49 (.i .i64 4)) fun v50 => (rS v50 (rK (C 176 [x0, x5, x1] h) fun v51 h52 => (some ((.tup []), h52))) (rK (C 171 [x0, (.i .i64 1), (.i .u32 0), x1] h) fun v53 h54 => (some ((.tup []), h54))))))))))))))))))))
def rJ142_1 (C : Nat → List V → H → Rr) (k : Nat) : E → H → Rr := fun e h => (rK142_1 C k (e 0) (e 1) (e 4) (e 5) (e 34) h)
theorem rp142_1 (C : Nat → List V → H → Rr) (k : Nat) : dn C k c142_1 (rQ142_1 C k) = (rJ142_1 C k) := by kernel_rfl
def rS142_5 (C : Nat → List V → H → Rr) (k : Nat) : E → H → Rr := ((Qxr (rJ142_1 C k) (Qbr 0 (rQ142 C k))) X.normal)
def rK142_5 (C : Nat → List V → H → Rr) (k : Nat) (x0 x1 x4 x5 x38 x43 : V) (h : H) : Rr := (rB (vPick x38 x43 (.b false)) fun v1 => (rK142_1 C k x0 x1 x4 x5 v1 h))
def rJ142_5 (C : Nat → List V → H → Rr) (k : Nat) : E → H → Rr := fun e h => (rK142_5 C k (e 0) (e 1) (e 4) (e 5) (e 38) (e 43) h)
theorem rp142_5 (C : Nat → List V → H → Rr) (k : Nat) : dnOps C o142_2 (rS142_5 C k) = (rJ142_5 C k) := by
  refine Eq.trans (rapp_eq rfl rfl) ?_
  kernel_rfl
def rK142 (C : Nat → List V → H → Rr) (k : Nat) (x0 x1 : V) (h : H) : Rr := (rB (vNilc x0) fun v1 => (rB (vFa 35 v1) fun v2 => (rB (vFa 1 v2) fun v3 => (rB (vLdA h 7 v3) fun v4 => (rB (some (.p (some (H.nx h, 0)), H.new h ⟨false, [(.i .i64 0), (.i .i64 0), (.i .i64 0), (.i .u32 0), (.b false), (.i .i64 0), (.i .u32 0)]⟩)) fun r5 => (rB (vStore r5.2 7 r5.1 v4) fun r6 => (rB (vNilc x0) fun v7 => (rB (vFa 29 v7) fun v8 => (rB (vLd1 r6.2 v8) fun v9 => (rB (vFa 6 r5.1) fun v10 => (rB (vLd1 r6.2 v10) fun v11 => (rK (C 90 [v9, v11] r6.2) fun v12 h13 => (rB (vFa 0 r5.1) fun v14 => (rB (vLd1 h13 v14) fun v15 => (rB (bin .eql v15 (.i .i64 0)) fun v16 => (rS v16 (rK (C 170 [x0, x1] h13) fun v17 h18 => (some ((.tup []), h18))) (rB (vEqz false .p v12 (.p none)) fun v19 => (rS v19 (rK (C 171 [x0, (.i .i64 6), (.i .u32 0), x1] h13) fun v20 h21 => (some ((.tup []), h21))) (rB (vFa 0 r5.1) fun v22 => (rB (vLd1 h13 v22) fun v23 => (rB (bin .eql v23 (.i .i64 1)) fun v24 => (rG v24 true (rB (vNilc v12) fun v25 => (rB (vFa 12 v25) fun v26 => (rB (vLd1 h13 v26) fun v27 => (rB (bin .neq v27 (.i .i64 0)) fun v28 => (rK142_5 C k x0 x1 r5.1 v12 v24 v28 h13))))) (rK142_5 C k x0 x1 r5.1 v12 v24 undefV h13)))))))))))))))))))))))
theorem rp142 (C : Nat → List V → H → Rr) (k : Nat) : dn C k c142 (rQ142 C k) = fun e h => (rK142 C k (e 0) (e 1) h) := by
  refine Eq.trans (rseq_eq (rseq_eq (rblock_eq (rseq_eq (rcond_eq rfl (rseq_eq (rcond_eq rfl (rseq_eq (rp142_1 C k) (rregion_eq (rapp_eq (rgrp_eq2 38 true rfl (rp142_5 C k) rfl) rfl)))) rfl)) rfl)) rfl) rfl) ?_
  kernel_rfl
def F142 : RF := fun C k a h => match a with
  | [a0, a1] => rK142 C k a0 a1 h
  | _ => none
theorem ro142 : RunOK IP 142 F142 := ⟨ir142, ip142, by kernel_rfl, fun C k a h r e => by
  unfold F142 at e
  split at e
  · exact ⟨by kernel_rfl, (congrFun (congrFun (rp142 C k) _) h).trans e⟩
  · cases e⟩
theorem ip143 : IP 143 = some ir143 := rfl
def rQ143 (C : Nat → List V → H → Rr) (k : Nat) : X → E → H → Rr := Qrr rs143
def rQ143_1 (C : Nat → List V → H → Rr) (k : Nat) : X → E → H → Rr := (rQ143 C k)
def rK143_1 (C : Nat → List V → H → Rr) (k : Nat) (x0 x1 : V) (h : H) : Rr := (rB (vNilc x0) fun v1 => (rB (vFa 0 v1) fun v2 => (rB (vFa 0 v2) fun v3 => (rB (vLd1 h v3) fun v4 => (rB (bin .add v4 x1) fun v5 => (some (v5, h)))))))
def rJ143_1 (C : Nat → List V → H → Rr) (k : Nat) : E → H → Rr := fun e h => (rK143_1 C k (e 0) (e 1) h)
theorem rp143_1 (C : Nat → List V → H → Rr) (k : Nat) : dn C k c143_1 (rQ143_1 C k) = (rJ143_1 C k) := by kernel_rfl
def rQ143_2 (C : Nat → List V → H → Rr) (k : Nat) : X → E → H → Rr := (Qxr (rJ143_1 C k) (rQ143 C k))
def rK143_2 (C : Nat → List V → H → Rr) (k : Nat) (x0 x1 x19 : V) (h : H) : Rr := (rS x19 (some ((.i .i64 (-1)), h)) (rK143_1 C k x0 x1 h))
def rJ143_2 (C : Nat → List V → H → Rr) (k : Nat) : E → H → Rr := fun e h => (rK143_2 C k (e 0) (e 1) (e 19) h)
theorem rp143_2 (C : Nat → List V → H → Rr) (k : Nat) : dn C k c143_2 (rQ143_2 C k) = (rJ143_2 C k) := by kernel_rfl
def rS143_8 (C : Nat → List V → H → Rr) (k : Nat) : E → H → Rr := ((Qxr (rJ143_2 C k) (Qxr (rJ143_1 C k) (rQ143 C k))) X.normal)
def rK143_8 (C : Nat → List V → H → Rr) (k : Nat) (x0 x1 x11 x18 : V) (h : H) : Rr := (rB (vPick x11 (.b true) x18) fun v1 => (rK143_2 C k x0 x1 v1 h))
def rJ143_8 (C : Nat → List V → H → Rr) (k : Nat) : E → H → Rr := fun e h => (rK143_8 C k (e 0) (e 1) (e 11) (e 18) h)
theorem rp143_8 (C : Nat → List V → H → Rr) (k : Nat) : dnOps C o143_3 (rS143_8 C k) = (rJ143_8 C k) := by
  refine Eq.trans (rapp_eq rfl rfl) ?_
  kernel_rfl
def rS143_9 (C : Nat → List V → H → Rr) (k : Nat) : E → H → Rr := ((Qxr (rJ143_2 C k) (Qxr (rJ143_1 C k) (rQ143 C k))) X.normal)
def rK143_9 (C : Nat → List V → H → Rr) (k : Nat) (x0 x1 x7 x9 : V) (h : H) : Rr := (rB (vPick x7 (.b true) x9) fun v1 => (rG v1 false (rB (vNilc x0) fun v2 => (rB (vFa 0 v2) fun v3 => (rB (vFa 1 v3) fun v4 => (rB (vLd1 h v4) fun v5 => (rB (bin .geq x1 v5) fun v6 => (rK143_8 C k x0 x1 v1 v6 h)))))) (rK143_8 C k x0 x1 v1 undefV h)))
def rJ143_9 (C : Nat → List V → H → Rr) (k : Nat) : E → H → Rr := fun e h => (rK143_9 C k (e 0) (e 1) (e 7) (e 9) h)
theorem rp143_9 (C : Nat → List V → H → Rr) (k : Nat) : dnOps C o143_5 (rS143_9 C k) = (rJ143_9 C k) := by
  refine Eq.trans (rapp_eq (rgrp_eq2 11 false rfl (rp143_8 C k) rfl) rfl) ?_
  kernel_rfl
def rK143 (C : Nat → List V → H → Rr) (k : Nat) (x0 x1 : V) (h : H) : Rr := (rB (vEqz false .p x0 (.p none)) fun v1 => (rG v1 false (rB (bin .lss x1 (.i .i64 0)) fun v2 => (rK143_9 C k x0 x1 v1 v2 h)) (rK143_9 C k x0 x1 v1 undefV h)))
theorem rp143 (C : Nat → List V → H → Rr) (k : Nat) : dn C k c143 (rQ143 C k) = fun e h => (rK143 C k (e 0) (e 1) h) := by
  refine Eq.trans (rseq_eq (rseq_eq (rp143_1 C k) (rseq_eq (rp143_2 C k) (rregion_eq (rapp_eq (rgrp_eq2 7 false rfl (rp143_9 C k) rfl) rfl)))) rfl) ?_
  kernel_rfl
def F143 : RF := fun C k a h => match a with
  | [a0, a1] => rK143 C k a0 a1 h
  | _ => none
theorem ro143 : RunOK IP 143 F143 := ⟨ir143, ip143, by kernel_rfl, fun C k a h r e => by
  unfold F143 at e
  split at e
  · exact ⟨by kernel_rfl, (congrFun (congrFun (rp143 C k) _) h).trans e⟩
  · cases e⟩
theorem ip144 : IP 144 = some ir144 := rfl
def rQ144 (C : Nat → List V → H → Rr) (k : Nat) : X → E → H → Rr := Qrr rs144
def rK144 (C : Nat → List V → H → Rr) (k : Nat) (x0 x1 x2 : V) (h : H) : Rr := (rB (vNilc x0) fun v1 => (rB (vFa 35 v1) fun v2 => (rB (vFa 1 v2) fun v3 => (rB (vLdA h 7 v3) fun v4 => (rB (some (.p (some (H.nx h, 0)), H.new h ⟨false, [(.i .i64 0), (.i .i64 0), (.i .i64 0), (.i .u32 0), (.b false), (.i .i64 0), (.i .u32 0)]⟩)) fun r5 => (rB (vStore r5.2 7 r5.1 v4) fun r6 => (rB (vFa 2 r5.1) fun v7 => (rB (vLd1 r6.2 v7) fun v8 => (rK (C 177 [v8] r6.2) fun v9 h10 => (rB (vNilc x0) fun v11 => (rB (vFa 35 v11) fun v12 => (rB (vFa 9 v12) fun v13 => (rB (vLd1 h10 v13) fun v14 => (rB (vNilc x0) fun v15 => (rB (vFa 28 v15) fun v16 => (rB (vLd1 h10 v16) fun v17 => (rK (C 173 [v17] h10) fun v18 h19 => (rK (C 178 [v14, v9, v18] h19) fun v20 h21 => (rB (vExt v20 0) fun v22 => (rB (vExt v20 1) fun v23 => (rC (stdy false 1 v13 h10 h19) (rB (un .not v23) fun v24 => (rS v24 (rB (vNilc x0) fun v25 => (rB (vFa 30 v25) fun v26 => (rB (vLd1 h21 v26) fun v27 => (rB (vFa 1 r5.1) fun v28 => (rB (vLd1 h21 v28) fun v29 => (rK (C 179 [v27, v29] h21) fun v30 h31 => (rB (vNilc x0) fun v32 => (rB (vFa 31 v32) fun v33 => (rB (vLd1 h31 v33) fun v34 => (rB (vFa 1 r5.1) fun v35 => (rB (vLd1 h31 v35) fun v36 => (rB (vIa 1 v34 v36) fun v37 => (rB (vLd1 h31 v37) fun v38 => (rK (C 180 [v38, x2, (.b false)] h31) fun v39 h40 => (rK (C 171 [x0, (.i .i64 6), (.i .u32 0), x2] h40) fun v41 h42 => (some ((.tup []), h42))))))))))))))))) (rB (vNilc x0) fun v43 => (rB (vFa 28 v43) fun v44 => (rB (vLd1 h21 v44) fun v45 => (rB (vNilc x0) fun v46 => (rB (vFa 35 v46) fun v47 => (rB (vFa 8 v47) fun v48 => (rB (vLd1 h21 v48) fun v49 => (rK (C 143 [v45, v49] h21) fun v50 h51 => (rK (C 85 [x1, v50, v22] h51) fun v52 h53 => (rB (vNilc x0) fun v54 => (rB (vFa 0 v54) fun v55 => (rB (vLd1 h53 v55) fun v56 => (rB (vFa 1 r5.1) fun v57 => (rB (vLd1 h53 v57) fun v58 => (rB (vNilc x0) fun v59 => (rB (vFa 35 v59) fun v60 => (rB (vFa 8 v60) fun v61 => (rB (vLd1 h53 v61) fun v62 => (rK (C 181 [v22] h53) fun v63 h64 => (rB (vFa 6 r5.1) fun v65 => (rB (vLd1 h64 v65) fun v66 => (rB (vFa 4 r5.1) fun v67 => (rB (vLd1 h64 v67) fun v68 => (rB (vFa 2 r5.1) fun v69 => (rB (vLd1 h64 v69) fun v70 => (rB (vFa 3 r5.1) fun v71 => (rB (vLd1 h64 v71) fun v72 => (rB (vBld [(.i .i64 0), (.i .i64 0), (.i .i64 0), (.i .i64 0), (.i .i64 0), (.i .u32 0), (.i .i64 0), (.b false), (.b false), (.i .i64 0), (.i .u32 0)] [(0, 1, (.i .i64 1)), (1, 1, v56), (2, 1, v58), (3, 1, v62), (4, 1, v63), (5, 1, v66), (7, 1, v68), (8, 1, v9), (9, 1, v70), (10, 1, v72)]) fun v73 => (rB (some (.p (some (H.nx h64, 0)), H.new h64 ⟨false, [(.i .i64 0), (.i .i64 0), (.i .i64 0), (.i .i64 0), (.i .i64 0), (.i .u32 0), (.i .i64 0), (.b false), (.b false), (.i .i64 0), (.i .u32 0)]⟩)) fun r74 => (rB (vStore r74.2 11 r74.1 v73) fun r75 => (rC (stdy false 1 v55 h53 h64) (rC (stdy false 1 v57 h53 h64) (rC (stdy false 1 v61 h53 h64) (rC (stdy false 1 v65 h53 h64) (rC (stdy false 1 v67 h53 h64) (rC (stdy false 1 v69 h53 h64) (rC (stdy false 1 v71 h53 h64) (rB (vLdA r75.2 11 r74.1) fun v76 => (rB (vFa 5 r5.1) fun v77 => (rB (vLd1 r75.2 v77) fun v78 => (rB (vLdA r75.2 11 r74.1) fun v79 => (rB (vFa 5 r5.1) fun v80 => (rB (vLd1 r75.2 v80) fun v81 => (rB (vNilc x0) fun v82 => (rB (vFa 1 v82) fun v83 => (rB (vFa 10 v83) fun v84 => (rB (vLdA r75.2 2 v84) fun v85 => (rK (C 182 [v79, v81, v85] r75.2) fun v86 h87 => (rK (C 183 [] h87) fun v88 h89 => (rB (vBld [(.i .i64 0), (.i .i64 0), (.i .i64 0), (.i .i64 0), (.i .i64 0), (.i .u32 0), (.i .i64 0), (.b false), (.b false), (.i .i64 0), (.i .u32 0), (.i .i64 0), (.i .i64 0), (.i .u32 0), (.p none), (.i .i64 0), (.i .i64 0), (.i .i64 0), (.p none), (.b false), (.b false), (.b false)] [(0, 11, v76), (11, 1, v78), (14, 1, v86), (18, 1, v88), (19, 1, (.b true))]) fun v90 => (rB (vBox v90 h89) fun r91 => (rC (stdy true 11 r74.1 r75.2 h87) (rC (stdy true 11 r74.1 h87 h89) (rC (stdy false 1 v77 r75.2 h87) (rC (stdy false 1 v77 h87 h89) (rB (vNilc x0) fun v92 => (rB (vFa 1 v92) fun v93 => (rB (vFa 3 v93) fun v94 => (rB (vLd1 r91.2 v94) fun v95 => (rK (C 184 [v95] r91.2) fun v96 h97 => (rB (vNilc x0) fun v98 => (rB (vFa 1 v98) fun v99 => (rB (vFa 3 v99) fun v100 => (rB (vLd1 h97 v100) fun v101 => (rK (C 117 [v101] h97) fun v102 h103 => (rK (C 185 [v96, v102] h103) fun v104 h105 => (rB (vExt v104 0) fun v106 => (rB (vExt v104 1) fun v107 => (rB (vNilc r91.1) fun v108 => (rB (vFa 15 v108) fun v109 => (rB (vStore h105 3 v109 v106) fun r110 => (rC (stdy false 1 v100 r91.2 h97) (rB (vNilc x0) fun v111 => (rB (vFa 29 v111) fun v112 => (rB (vLd1 r110.2 v112) fun v113 => (rK (C 186 [v113, r91.1] r110.2) fun v114 h115 => (rB (vNilc x0) fun v116 => (rB (vFa 35 v116) fun v117 => (rB (vFa 10 v117) fun v118 => (rB (vStore h115 1 v118 r91.1) fun r119 => (rB (vFa 5 r5.1) fun v120 => (rB (vLd1 r119.2 v120) fun v121 => (rB (vNilc x0) fun v122 => (rB (vFa 0 v122) fun v123 => (rB (vLd1 r119.2 v123) fun v124 => (rB (vFa 3 r74.1) fun v125 => (rB (vLd1 r119.2 v125) fun v126 => (rB (vFa 4 r74.1) fun v127 => (rB (vLd1 r119.2 v127) fun v128 => (rB (vBld [(.i .i64 0), (.i .i64 0), (.i .i64 0), (.i .i64 0), (.i .i64 0)] [(0, 1, v121), (1, 1, v124), (2, 1, v126), (3, 1, v128), (4, 1, (.i .i64 1))]) fun v129 => (rK (C 187 [v129] r119.2) fun v130 h131 => (rB (vExt v130 0) fun v132 => (rB (vExt v130 1) fun v133 => (rB (some (.p (some (H.nx h131, 0)), H.new h131 ⟨false, [(.i .i64 0), (.i .i64 0), (.i .i64 0), (.i .i64 0), (.i .i64 0), (.i .u32 0), (.i .i64 0), (.b false), (.b false), (.i .i64 0), (.i .u32 0)]⟩)) fun r134 => (rB (vStore r134.2 11 r134.1 v132) fun r135 => (rB (vLdA r135.2 11 r134.1) fun v136 => (rK (C 60 [v136] r135.2) fun v137 h138 => (rB (vExt v137 0) fun v139 => (rB (vExt v137 1) fun v140 => (rB (some (.p (some (H.nx h138, 0)), H.new h138 ⟨false, [(.i .u64 0), (.i .u64 0), (.i .u64 0)]⟩)) fun r141 => (rB (vStore r141.2 3 r141.1 v139) fun r142 => (rB (vNilc x0) fun v143 => (rB (vFa 19 v143) fun v144 => (rB (vFa 4 v144) fun v145 => (rB (vLdA r142.2 2 v145) fun v146 => (rB (vLdA r142.2 3 r141.1) fun v147 => (rK (C 61 [v146, v147] r142.2) fun v148 h149 => (rB (vNilc x0) fun v150 => (rB (vFa 35 v150) fun v151 => (rB (vFa 11 v151) fun v152 => (rB (vStore h149 9 v152 v148) fun r153 => (rB (vNilc x0) fun v154 => (rB (vFa 35 v154) fun v155 => (rB (vFa 0 v155) fun v156 => (rB (vStore r153.2 1 v156 (.i .i64 4)) fun r157 => (some ((.tup []), r157.2))))))))))))))))))))))))))))))))))))))))))))))))))))))))))))))))))))))))))))))))))))))))))))))))))))))))))))))))))))))))))))))))))))))))))))
theorem rp144 (C : Nat → List V → H → Rr) (k : Nat) : dn C k c144 (rQ144 C k) = fun e h => (rK144 C k (e 0) (e 1) (e 2) h) := by kernel_rfl
def F144 : RF := fun C k a h => match a with
  | [a0, a1, a2] => rK144 C k a0 a1 a2 h
  | _ => none
theorem ro144 : RunOK IP 144 F144 := ⟨ir144, ip144, by kernel_rfl, fun C k a h r e => by
  unfold F144 at e
  split at e
  · exact ⟨by kernel_rfl, (congrFun (congrFun (rp144 C k) _) h).trans e⟩
  · cases e⟩
theorem ip145 : IP 145 = some ir145 := rfl
def rQ145 (C : Nat → List V → H → Rr) (k : Nat) : X → E → H → Rr := Qrr rs145
def rK145 (C : Nat → List V → H → Rr) (k : Nat) (x0 x1 x2 : V) (h : H) : Rr := (rB (vNilc x0) fun v1 => (rB (vFa 35 v1) fun v2 => (rB (vFa 11 v2) fun v3 => (rB (vLdA h 9 v3) fun v4 => (rK (C 62 [v4, x1] h) fun v5 h6 => (rB (vNilc x0) fun v7 => (rB (vFa 35 v7) fun v8 => (rB (vFa 11 v8) fun v9 => (rB (vStore h6 9 v9 v5) fun r10 => (rB (vNilc x0) fun v11 => (rB (vFa 35 v11) fun v12 => (rB (vFa 11 v12) fun v13 => (rB (vLdA r10.2 9 v13) fun v14 => (rK (C 63 [v14] r10.2) fun v15 h16 => (rB (vExt v15 0) fun v17 => (rB (vExt v15 1) fun v18 => (rB (vNilc x0) fun v19 => (rB (vFa 35 v19) fun v20 => (rB (vFa 10 v20) fun v21 => (rB (vLd1 h16 v21) fun v22 => (rB (un .not v18) fun v23 => (rS v23 (some ((.tup []), h16)) (rB (bin .neq v17 (.i .i64 0)) fun v24 => (rS v24 (rB (vNilc x0) fun v25 => (rB (vFa 35 v25) fun v26 => (rB (vFa 0 v26) fun v27 => (rB (vStore h16 1 v27 (.i .i64 6)) fun r28 => (rB (vNilc x0) fun v29 => (rB (vFa 28 v29) fun v30 => (rB (vLd1 r28.2 v30) fun v31 => (rB (vNilc v22) fun v32 => (rB (vFa 0 v32) fun v33 => (rB (vFa 3 v33) fun v34 => (rB (vLd1 r28.2 v34) fun v35 => (rK (C 143 [v31, v35] r28.2) fun v36 h37 => (rB (vNilc v22) fun v38 => (rB (vFa 0 v38) fun v39 => (rB (vFa 4 v39) fun v40 => (rB (vLd1 h37 v40) fun v41 => (rB (vNilc x0) fun v42 => (rB (vFa 28 v42) fun v43 => (rB (vLd1 h37 v43) fun v44 => (rK (C 173 [v44] h37) fun v45 h46 => (rK (C 172 [v36, v41, v45] h46) fun v47 h48 => (rB (vNilc x0) fun v49 => (rB (vFa 35 v49) fun v50 => (rB (vFa 20 v50) fun v51 => (rB (vStore h48 5 v51 v47) fun r52 => (rC (stdy false 1 v40 r28.2 h37) (rC (stdy false 1 v40 h37 h46) (rC (stdy false 1 v43 r28.2 h37) (some ((.tup []), r52.2)))))))))))))))))))))))))))))) (rB (vNilc x0) fun v53 => (rB (vFa 35 v53) fun v54 => (rB (vFa 0 v54) fun v55 => (rB (vLd1 h16 v55) fun v56 => (rB (bin .eql v56 (.i .i64 4)) fun v57 => (rS v57 (rB (vNilc v22) fun v58 => (rB (vFa 14 v58) fun v59 => (rB (vLd1 h16 v59) fun v60 => (rK (C 188 [v60, x2] h16) fun v61 h62 => (rB (vIa 17 v61 (.i .i64 0)) fun v63 => (rB (vFa 1 v63) fun v64 => (rB (vLdA h62 11 v64) fun v65 => (rK (C 60 [v65] h62) fun v66 h67 => (rB (vExt v66 0) fun v68 => (rB (vExt v66 1) fun v69 => (rB (some (.p (some (H.nx h67, 0)), H.new h67 ⟨false, [(.i .u64 0), (.i .u64 0), (.i .u64 0)]⟩)) fun r70 => (rB (vStore r70.2 3 r70.1 v68) fun r71 => (rB (slcut 17 v61 (some (.i .i64 1)) none none) fun v72 => (rK (C 189 [x0, v72] r71.2) fun v73 h74 => (rB (vNilc x0) fun v75 => (rB (vFa 19 v75) fun v76 => (rB (vFa 0 v76) fun v77 => (rB (vLd1 h74 v77) fun v78 => (rB (vNilc v22) fun v79 => (rB (vFa 0 v79) fun v80 => (rB (vFa 2 v80) fun v81 => (rB (vLd1 h74 v81) fun v82 => (rB (vIa 2 v78 v82) fun v83 => (rB (vLdA h74 2 v83) fun v84 => (rB (vLdA h74 3 r70.1) fun v85 => (rK (C 61 [v84, v85] h74) fun v86 h87 => (rB (vNilc x0) fun v88 => (rB (vFa 35 v88) fun v89 => (rB (vFa 11 v89) fun v90 => (rB (vStore h87 9 v90 v86) fun r91 => (rB (vNilc x0) fun v92 => (rB (vFa 35 v92) fun v93 => (rB (vFa 0 v93) fun v94 => (rB (vStore r91.2 1 v94 (.i .i64 5)) fun r95 => (some ((.tup []), r95.2)))))))))))))))))))))))))))))))))))) (rB (vNilc v22) fun v96 => (rB (vFa 19 v96) fun v97 => (rB (vStore h16 1 v97 (.b false)) fun r98 => (rB (vNilc v22) fun v99 => (rB (vFa 20 v99) fun v100 => (rB (vStore r98.2 1 v100 (.b true)) fun r101 => (rK (C 190 [x0, v22] r101.2) fun v102 h103 => (rK (C 171 [x0, (.i .i64 0), (.i .u32 0), x2] h103) fun v104 h105 => (some ((.tup []), h105))))))))))))))))))))))))))))))))))))))))
theorem rp145 (C : Nat → List V → H → Rr) (k : Nat) : dn C k c145 (rQ145 C k) = fun e h => (rK145 C k (e 0) (e 1) (e 2) h) := by kernel_rfl
def F145 : RF := fun C k a h => match a with
  | [a0, a1, a2] => rK145 C k a0 a1 a2 h
  | _ => none
theorem ro145 : RunOK IP 145 F145 := ⟨ir145, ip145, by kernel_rfl, fun C k a h r e => by
  unfold F145 at e
  split at e
  · exact ⟨by kernel_rfl, (congrFun (congrFun (rp145 C k) _) h).trans e⟩
  · cases e⟩
theorem ip147 : IP 147 = some ir147 := rfl
def Q147 [q : Hid (V → H → Prop)] : X → E → H → Prop := Qr rs147 q.un
def S147_4 [q : Hid (V → H → Prop)] : E → H → Prop := ((Qx (den IP .ret (@Q147 q)) (@Q147 q)) X.normal)
def K147_4 (x9 x13 : V) (h : H) [q : Hid (V → H → Prop)] : Prop := @Bnd V (vPick x9 x13 (.b false)) ⟨fun v1 => @Hid.un (V → H → Prop) q v1 h⟩
def J147_4 [q : Hid (V → H → Prop)] : E → H → Prop := fun e h => @K147_4 (e 9) (e 13) h q
theorem p147_4 [q : Hid (V → H → Prop)] : denOps IP o147_1 (@S147_4 q) = (@J147_4 q) := by
  refine Eq.trans (app_eq rfl rfl) ?_
  kernel_rfl
def K147 (x0 x1 : V) (h : H) [q : Hid (V → H → Prop)] : Prop := @wF IP 136 [x1] h ⟨fun v1 h2 => @Bnd V (bin .lss v1 (.i .i64 1099511627776)) ⟨fun v3 => @Grd v3 true ⟨@wF IP 136 [x0] h2 ⟨fun v4 h5 => @Bnd V (bin .leq v1 v4) ⟨fun v6 => @K147_4 v3 v6 h5 q⟩⟩⟩ ⟨@K147_4 v3 undefV h2 q⟩⟩⟩
theorem p147 [q : Hid (V → H → Prop)] : den IP c147 (@Q147 q) = fun e h => @K147 (e 0) (e 1) h q := by
  refine Eq.trans (seq_eq (seq_eq (seq_eq rfl (region_eq (app_eq (grp_eq2 9 true rfl (@p147_4 q) rfl) rfl))) rfl) rfl) ?_
  kernel_rfl
theorem f147 (a0 a1 : V) (h : H) (Q : V → H → Prop) : @wF IP 147 [a0, a1] h ⟨Q⟩ ↔ @K147 a0 a1 h ⟨Q⟩ := (Fnc_den (ip147) (by kernel_rfl) (by kernel_rfl) h Q).trans (iff_of_eq (congrFun (congrFun (@p147 ⟨Q⟩) _) h))
def rQ147 (C : Nat → List V → H → Rr) (k : Nat) : X → E → H → Rr := Qrr rs147
def rS147_4 (C : Nat → List V → H → Rr) (k : Nat) : E → H → Rr := ((Qxr (dn C k .ret (rQ147 C k)) (rQ147 C k)) X.normal)
def rK147_4 (C : Nat → List V → H → Rr) (k : Nat) (x9 x13 : V) (h : H) : Rr := (rB (vPick x9 x13 (.b false)) fun v1 => (some (v1, h)))
def rJ147_4 (C : Nat → List V → H → Rr) (k : Nat) : E → H → Rr := fun e h => (rK147_4 C k (e 9) (e 13) h)
theorem rp147_4 (C : Nat → List V → H → Rr) (k : Nat) : dnOps C o147_1 (rS147_4 C k) = (rJ147_4 C k) := by
  refine Eq.trans (rapp_eq rfl rfl) ?_
  kernel_rfl
def rK147 (C : Nat → List V → H → Rr) (k : Nat) (x0 x1 : V) (h : H) : Rr := (rK (C 136 [x1] h) fun v1 h2 => (rB (bin .lss v1 (.i .i64 1099511627776)) fun v3 => (rG v3 true (rK (C 136 [x0] h2) fun v4 h5 => (rB (bin .leq v1 v4) fun v6 => (rK147_4 C k v3 v6 h5))) (rK147_4 C k v3 undefV h2))))
theorem rp147 (C : Nat → List V → H → Rr) (k : Nat) : dn C k c147 (rQ147 C k) = fun e h => (rK147 C k (e 0) (e 1) h) := by
  refine Eq.trans (rseq_eq (rseq_eq (rseq_eq rfl (rregion_eq (rapp_eq (rgrp_eq2 9 true rfl (rp147_4 C k) rfl) rfl))) rfl) rfl) ?_
  kernel_rfl
def F147 : RF := fun C k a h => match a with
  | [a0, a1] => rK147 C k a0 a1 h
  | _ => none
theorem ro147 : RunOK IP 147 F147 := ⟨ir147, ip147, by kernel_rfl, fun C k a h r e => by
  unfold F147 at e
  split at e
  · exact ⟨by kernel_rfl, (congrFun (congrFun (rp147 C k) _) h).trans e⟩
  · cases e⟩
theorem ip148 : IP 148 = some ir148 := rfl
def rQ148 (C : Nat → List V → H → Rr) (k : Nat) : X → E → H → Rr := Qrr rs148
def rS148_4 (C : Nat → List V → H → Rr) (k : Nat) : E → H → Rr := ((Qxr (dn C k .ret (rQ148 C k)) (rQ148 C k)) X.normal)
def rK148_4 (C : Nat → List V → H → Rr) (k : Nat) (x7 x10 : V) (h : H) : Rr := (rB (vPick x7 x10 (.b false)) fun v1 => (some (v1, h)))
def rJ148_4 (C : Nat → List V → H → Rr) (k : Nat) : E → H → Rr := fun e h => (rK148_4 C k (e 7) (e 10) h)
theorem rp148_4 (C : Nat → List V → H → Rr) (k : Nat) : dnOps C o148_1 (rS148_4 C k) = (rJ148_4 C k) := by
  refine Eq.trans (rapp_eq rfl rfl) ?_
  kernel_rfl
def rK148 (C : Nat → List V → H → Rr) (k : Nat) (x0 x1 : V) (h : H) : Rr := (rB (bin .geq x0 (.i .i64 0)) fun v1 => (rG v1 true (rB (bin .leq x0 x1) fun v2 => (rK148_4 C k v1 v2 h)) (rK148_4 C k v1 undefV h)))
theorem rp148 (C : Nat → List V → H → Rr) (k : Nat) : dn C k c148 (rQ148 C k) = fun e h => (rK148 C k (e 0) (e 1) h) := by
  refine Eq.trans (rseq_eq (rseq_eq rfl (rregion_eq (rapp_eq (rgrp_eq2 7 true rfl (rp148_4 C k) rfl) rfl))) rfl) ?_
  kernel_rfl
def F148 : RF := fun C k a h => match a with
  | [a0, a1] => rK148 C k a0 a1 h
  | _ => none
theorem ro148 : RunOK IP 148 F148 := ⟨ir148, ip148, by kernel_rfl, fun C k a h r e => by
  unfold F148 at e
  split at e
  · exact ⟨by kernel_rfl, (congrFun (congrFun (rp148 C k) _) h).trans e⟩
  · cases e⟩
theorem ip149 : IP 149 = some ir149 := rfl
def rQ149 (C : Nat → List V → H → Rr) (k : Nat) : X → E → H → Rr := Qrr rs149
def rS149_8 (C : Nat → List V → H → Rr) (k : Nat) : E → H → Rr := ((Qxr (dn C k .ret (rQ149 C k)) (rQ149 C k)) X.normal)
def rK149_8 (C : Nat → List V → H → Rr) (k : Nat) (x16 x22 : V) (h : H) : Rr := (rB (vPick x16 x22 (.b false)) fun v1 => (some (v1, h)))
def rJ149_8 (C : Nat → List V → H → Rr) (k : Nat) : E → H → Rr := fun e h => (rK149_8 C k (e 16) (e 22) h)
theorem rp149_8 (C : Nat → List V → H → Rr) (k : Nat) : dnOps C o149_1 (rS149_8 C k) = (rJ149_8 C k) := by
  refine Eq.trans (rapp_eq rfl rfl) ?_
  kernel_rfl
def rS149_9 (C : Nat → List V → H → Rr) (k : Nat) : E → H → Rr := ((Qxr (dn C k .ret (rQ149 C k)) (rQ149 C k)) X.normal)
def rK149_9 (C : Nat → List V → H → Rr) (k : Nat) (x1 x11 x14 : V) (h : H) : Rr := (rB (vPick x11 x14 (.b false)) fun v1 => (rG v1 true (rB (vFa 1 x1) fun v2 => (rB (vLd1 h v2) fun v3 => (rB (vFa 0 x1) fun v4 => (rB (vLd1 h v4) fun v5 => (rB (bin .sub (.i .i64 64) v5) fun v6 => (rB (bin .leq v3 v6) fun v7 => (rK149_8 C k v1 v7 h))))))) (rK149_8 C k v1 undefV h)))
def rJ149_9 (C : Nat → List V → H → Rr) (k : Nat) : E → H → Rr := fun e h => (rK149_9 C k (e 1) (e 11) (e 14) h)
theorem rp149_9 (C : Nat → List V → H → Rr) (k : Nat) : dnOps C o149_3 (rS149_9 C k) = (rJ149_9 C k) := by
  refine Eq.trans (rapp_eq (rgrp_eq2 16 true rfl (rp149_8 C k) rfl) rfl) ?_
  kernel_rfl
def rS149_10 (C : Nat → List V → H → Rr) (k : Nat) : E → H → Rr := ((Qxr (dn C k .ret (rQ149 C k)) (rQ149 C k)) X.normal)
def rK149_10 (C : Nat → List V → H → Rr) (k : Nat) (x1 x6 x9 : V) (h : H) : Rr := (rB (vPick x6 x9 (.b false)) fun v1 => (rG v1 true (rB (vFa 0 x1) fun v2 => (rB (vLd1 h v2) fun v3 => (rB (bin .lss v3 (.i .i64 64)) fun v4 => (rK149_9 C k x1 v1 v4 h)))) (rK149_9 C k x1 v1 undefV h)))
def rJ149_10 (C : Nat → List V → H → Rr) (k : Nat) : E → H → Rr := fun e h => (rK149_10 C k (e 1) (e 6) (e 9) h)
theorem rp149_10 (C : Nat → List V → H → Rr) (k : Nat) : dnOps C o149_5 (rS149_10 C k) = (rJ149_10 C k) := by
  refine Eq.trans (rapp_eq (rgrp_eq2 11 true rfl (rp149_9 C k) rfl) rfl) ?_
  kernel_rfl
def rK149 (C : Nat → List V → H → Rr) (k : Nat) (x0 : V) (h : H) : Rr := (rB (vBox x0 h) fun r1 => (rB (vFa 0 r1.1) fun v2 => (rB (vLd1 r1.2 v2) fun v3 => (rB (bin .geq v3 (.i .i64 0)) fun v4 => (rG v4 true (rB (vFa 1 r1.1) fun v5 => (rB (vLd1 r1.2 v5) fun v6 => (rB (bin .geq v6 (.i .i64 1)) fun v7 => (rK149_10 C k r1.1 v4 v7 r1.2)))) (rK149_10 C k r1.1 v4 undefV r1.2))))))
theorem rp149 (C : Nat → List V → H → Rr) (k : Nat) : dn C k c149 (rQ149 C k) = fun e h => (rK149 C k (e 0) h) := by
  refine Eq.trans (rseq_eq (rseq_eq rfl (rregion_eq (rapp_eq (rgrp_eq2 6 true rfl (rp149_10 C k) rfl) rfl))) rfl) ?_
  kernel_rfl
def F149 : RF := fun C k a h => match a with
  | [a0] => rK149 C k a0 h
  | _ => none
theorem ro149 : RunOK IP 149 F149 := ⟨ir149, ip149, by kernel_rfl, fun C k a h r e => by
  unfold F149 at e
  split at e
  · exact ⟨by kernel_rfl, (congrFun (congrFun (rp149 C k) _) h).trans e⟩
  · cases e⟩
theorem ip150 : IP 150 = some ir150 := rfl
def rQ150 (C : Nat → List V → H → Rr) (k : Nat) : X → E → H → Rr := Qrr rs150
def rK150 (C : Nat → List V → H → Rr) (k : Nat) (x0 : V) (h : H) : Rr := (rB (vBox x0 h) fun r1 => (rB (vLdA r1.2 2 r1.1) fun v2 => (rK (C 149 [v2] r1.2) fun v3 h4 => (rB (un .not v3) fun v5 => (rS v5 (some ((.i .u64 0), h4)) (rB (vLdA h4 2 r1.1) fun v6 => (rK (C 151 [v6] h4) fun v7 h8 => (rB (vFa 0 r1.1) fun v9 => (rB (vLd1 h8 v9) fun v10 => (rB (bin .shl v7 v10) fun v11 => (rC (stdy false 1 v9 h4 h8) (some (v11, h8)))))))))))))
theorem rp150 (C : Nat → List V → H → Rr) (k : Nat) : dn C k c150 (rQ150 C k) = fun e h => (rK150 C k (e 0) h) := by kernel_rfl
def F150 : RF := fun C k a h => match a with
  | [a0] => rK150 C k a0 h
  | _ => none
theorem ro150 : RunOK IP 150 F150 := ⟨ir150, ip150, by kernel_rfl, fun C k a h r e => by
  unfold F150 at e
  split at e
  · exact ⟨by kernel_rfl, (congrFun (congrFun (rp150 C k) _) h).trans e⟩
  · cases e⟩
theorem ip151 : IP 151 = some ir151 := rfl
def rQ151 (C : Nat → List V → H → Rr) (k : Nat) : X → E → H → Rr := Qrr rs151
def rK151 (C : Nat → List V → H → Rr) (k : Nat) (x0 : V) (h : H) : Rr := (rB (vBox x0 h) fun r1 => (rB (vLdA r1.2 2 r1.1) fun v2 => (rK (C 149 [v2] r1.2) fun v3 h4 => (rB (un .not v3) fun v5 => (rS v5 (some ((.i .u64 0), h4)) (rB (vFa 1 r1.1) fun v6 => (rB (vLd1 h4 v6) fun v7 => (rB (bin .sub (.i .i64 64) v7) fun v8 => (rB (bin .shr (.i .u64 18446744073709551615) v8) fun v9 => (some (v9, h4)))))))))))
theorem rp151 (C : Nat → List V → H → Rr) (k : Nat) : dn C k c151 (rQ151 C k) = fun e h => (rK151 C k (e 0) h) := by kernel_rfl
def F151 : RF := fun C k a h => match a with
  | [a0] => rK151 C k a0 h
  | _ => none
theorem ro151 : RunOK IP 151 F151 := ⟨ir151, ip151, by kernel_rfl, fun C k a h r e => by
  unfold F151 at e
  split at e
  · exact ⟨by kernel_rfl, (congrFun (congrFun (rp151 C k) _) h).trans e⟩
  · cases e⟩
theorem ip157 : IP 157 = some ir157 := rfl
def rQ157 (C : Nat → List V → H → Rr) (k : Nat) : X → E → H → Rr := Qrr rs157
def rK157 (C : Nat → List V → H → Rr) (k : Nat) (x0 x1 : V) (h : H) : Rr := (rK (C 207 [x0, x1] h) fun v1 h2 => (rB (bin .geq v1 (.i .i64 0)) fun v3 => (some (v3, h2))))
theorem rp157 (C : Nat → List V → H → Rr) (k : Nat) : dn C k c157 (rQ157 C k) = fun e h => (rK157 C k (e 0) (e 1) h) := by kernel_rfl
def F157 : RF := fun C k a h => match a with
  | [a0, a1] => rK157 C k a0 a1 h
  | _ => none
theorem ro157 : RunOK IP 157 F157 := ⟨ir157, ip157, by kernel_rfl, fun C k a h r e => by
  unfold F157 at e
  split at e
  · exact ⟨by kernel_rfl, (congrFun (congrFun (rp157 C k) _) h).trans e⟩
  · cases e⟩
theorem ip170 : IP 170 = some ir170 := rfl
def rQ170 (C : Nat → List V → H → Rr) (k : Nat) : X → E → H → Rr := Qrr rs170
def rQ170_1 (C : Nat → List V → H → Rr) (k : Nat) : X → E → H → Rr := (rQ170 C k)
def rK170_1 (C : Nat → List V → H → Rr) (k : Nat) (x0 x1 x4 : V) (h : H) : Rr := (rB (vNilc x0) fun v1 => (rB (vFa 29 v1) fun v2 => (rB (vLd1 h v2) fun v3 => (rK (C 219 [v3] h) fun v4 h5 => (rB (un .not v4) fun v6 => (rS v6 (rK (C 171 [x0, (.i .i64 3), (.i .u32 0), x1] h5) fun v7 h8 => (some ((.tup []), h8))) (rB (vNilc x0) fun v9 => (rB (vFa 30 v9) fun v10 => (rB (vLd1 h5 v10) fun v11 => (rB (vFa 1 x4) fun v12 => (rB (vLd1 h5 v12) fun v13 => (rK (C 220 [v11, v13] h5) fun v14 h15 => (rB (un .not v14) fun v16 => (rS v16 (rK (C 171 [x0, (.i .i64 8), (.i .u32 0), x1] h15) fun v17 h18 => (some ((.tup []), h18))) (rB (vNilc x0) fun v19 => (rB (vFa 28 v19) fun v20 => (rB (vLd1 h15 v20) fun v21 => (rK (C 221 [v21] h15) fun v22 h23 => (rB (vExt v22 0) fun v24 => (rB (vExt v22 1) fun v25 => (rB (un .not v25) fun v26 => (rS v26 (rB (vNilc x0) fun v27 => (rB (vFa 30 v27) fun v28 => (rB (vLd1 h23 v28) fun v29 => (rB (vFa 1 x4) fun v30 => (rB (vLd1 h23 v30) fun v31 => (rK (C 179 [v29, v31] h23) fun v32 h33 => (rK (C 171 [x0, (.i .i64 6), (.i .u32 0), x1] h33) fun v34 h35 => (some ((.tup []), h35))))))))) (rB (vNilc x0) fun v36 => (rB (vFa 31 v36) fun v37 => (rB (vLd1 h23 v37) fun v38 => (rB (vFa 1 x4) fun v39 => (rB (vLd1 h23 v39) fun v40 => (rB (vIa 1 v38 v40) fun v41 => (rB (vLd1 h23 v41) fun v42 => (rK (C 222 [v42, x1] h23) fun v43 h44 => (rB (un .not v43) fun v45 => (rS v45 (rB (vNilc x0) fun v46 => (rB (vFa 28 v46) fun v47 => (rB (vLd1 h44 v47) fun v48 => (rK (C 86 [(.i .i64 0), (.i .i64 0)] h44) fun v49 h50 => (rK (C 223 [v48, v24, v49] h50) fun v51 h52 => (rC (stdy false 1 v47 h44 h50) (rB (vNilc x0) fun v53 => (rB (vFa 30 v53) fun v54 => (rB (vLd1 h52 v54) fun v55 => (rB (vFa 1 x4) fun v56 => (rB (vLd1 h52 v56) fun v57 => (rK (C 179 [v55, v57] h52) fun v58 h59 => (rK (C 171 [x0, (.i .i64 7), (.i .u32 0), x1] h59) fun v60 h61 => (some ((.tup []), h61))))))))))))))) (rB (vNilc x0) fun v62 => (rB (vFa 35 v62) fun v63 => (rB (vFa 8 v63) fun v64 => (rB (vStore h44 1 v64 v24) fun r65 => (rB (vNilc x0) fun v66 => (rB (vFa 35 v66) fun v67 => (rB (vFa 0 v67) fun v68 => (rB (vStore r65.2 1 v68 (.i .i64 2)) fun r69 => (some ((.tup []), r69.2))))))))))))))))))))))))))))))))))))))))))
def rJ170_1 (C : Nat → List V → H → Rr) (k : Nat) : E → H → Rr := fun e h => (rK170_1 C k (e 0) (e 1) (e 4) h)
theorem rp170_1 (C : Nat → List V → H → Rr) (k : Nat) : dn C k c170_1 (rQ170_1 C k) = (rJ170_1 C k) := by kernel_rfl
def rQ170_2 (C : Nat → List V → H → Rr) (k : Nat) : X → E → H → Rr := (Qxr (rJ170_1 C k) (rQ170 C k))
def rK170_2 (C : Nat → List V → H → Rr) (k : Nat) (x0 x1 x4 x50 : V) (h : H) : Rr := (rS x50 (rK (C 171 [x0, (.i .i64 1), (.i .u32 0), x1] h) fun v1 h2 => (some ((.tup []), h2))) (rK170_1 C k x0 x1 x4 h))
def rJ170_2 (C : Nat → List V → H → Rr) (k : Nat) : E → H → Rr := fun e h => (rK170_2 C k (e 0) (e 1) (e 4) (e 50) h)
theorem rp170_2 (C : Nat → List V → H → Rr) (k : Nat) : dn C k c170_2 (rQ170_2 C k) = (rJ170_2 C k) := by kernel_rfl
def rS170_14 (C : Nat → List V → H → Rr) (k : Nat) : List (E × H) → E → H → Rr := (fun st e h => rChk o170_13 ((e, h) :: st) 39 [(31, 29)] ((Qxr (rJ170_2 C k) (Qxr (rJ170_1 C k) (rQ170 C k))) X.normal e h))
def rK170_14 (C : Nat → List V → H → Rr) (k : Nat) (k29_h : H) (k30_h : H) (k31_38 : V) (k31_42 : V) (x0 x1 x4 x46 x49 : V) (h : H) : Rr := (rB (vPick x46 (.b true) x49) fun v1 => (rC (stdyG k31_38 false (stdy false 1 k31_42 k29_h k30_h)) (rK170_2 C k x0 x1 x4 v1 h)))
def rJ170_14 (C : Nat → List V → H → Rr) (k : Nat) : List (E × H) → E → H → Rr := fun st e h => (rK170_14 C k (List.getD st 8 eh0).2 (List.getD st 7 eh0).2 ((List.getD st 6 eh0).1 38) ((List.getD st 6 eh0).1 42) (e 0) (e 1) (e 4) (e 46) (e 49) h)
theorem rp170_14 (C : Nat → List V → H → Rr) (k : Nat) : dnT C o170_3 (rS170_14 C k) = (rJ170_14 C k) := by
  refine Eq.trans (rtapp_eq rfl rfl) ?_
  kernel_rfl
def rS170_15 (C : Nat → List V → H → Rr) (k : Nat) : List (E × H) → E → H → Rr := (fun st e h => rChk o170_13 ((e, h) :: st) 39 [(31, 29)] ((Qxr (rJ170_2 C k) (Qxr (rJ170_1 C k) (rQ170 C k))) X.normal e h))
def rK170_15 (C : Nat → List V → H → Rr) (k : Nat) (k29_h : H) (k30_h : H) (k31_38 : V) (k31_42 : V) (x0 x1 x4 x38 x44 : V) (h : H) : Rr := (rB (vPick x38 (.b true) x44) fun v1 => (rG v1 false (rB (vFa 5 x4) fun v2 => (rB (vLd1 h v2) fun v3 => (rB (bin .eql v3 (.i .i64 1099511627776)) fun v4 => (rK170_14 C k k29_h k30_h k31_38 k31_42 x0 x1 x4 v1 v4 h)))) (rK170_14 C k k29_h k30_h k31_38 k31_42 x0 x1 x4 v1 undefV h)))
def rJ170_15 (C : Nat → List V → H → Rr) (k : Nat) : List (E × H) → E → H → Rr := fun st e h => (rK170_15 C k (List.getD st 3 eh0).2 (List.getD st 2 eh0).2 ((List.getD st 1 eh0).1 38) ((List.getD st 1 eh0).1 42) (e 0) (e 1) (e 4) (e 38) (e 44) h)
theorem rp170_15 (C : Nat → List V → H → Rr) (k : Nat) : dnT C o170_5 (rS170_15 C k) = (rJ170_15 C k) := by
  refine Eq.trans (rtapp_eq (rtgrp_eq2 46 false rfl (rp170_14 C k) rfl) rfl) ?_
  kernel_rfl
def rS170_16 (C : Nat → List V → H → Rr) (k : Nat) : List (E × H) → E → H → Rr := (fun st e h => rChk o170_13 ((e, h) :: st) 39 [(31, 29)] ((Qxr (rJ170_2 C k) (Qxr (rJ170_1 C k) (rQ170 C k))) X.normal e h))
def rK170_16 (C : Nat → List V → H → Rr) (k : Nat) (x0 x1 x4 x32 x36 : V) (h : H) : Rr := (rB (vPick x32 (.b true) x36) fun v1 => (rG v1 false (rB (vFa 5 x4) fun v2 => (rB (vLd1 h v2) fun v3 => (rK (C 136 [v3] h) fun v4 h5 => (rB (vFa 5 x4) fun v6 => (rB (vLd1 h5 v6) fun v7 => (rB (bin .neq v4 v7) fun v8 => (rK170_15 C k h h5 v1 v6 x0 x1 x4 v1 v8 h5))))))) (rK170_15 C k h h v1 undefV x0 x1 x4 v1 undefV h)))
def rJ170_16 (C : Nat → List V → H → Rr) (k : Nat) : List (E × H) → E → H → Rr := fun st e h => (rK170_16 C k (e 0) (e 1) (e 4) (e 32) (e 36) h)
theorem rp170_16 (C : Nat → List V → H → Rr) (k : Nat) : dnT C o170_7 (rS170_16 C k) = (rJ170_16 C k) := by
  refine Eq.trans (rtapp_eq (rtgrp_eq2 38 false rfl (rp170_15 C k) rfl) rfl) ?_
  kernel_rfl
def rS170_17 (C : Nat → List V → H → Rr) (k : Nat) : List (E × H) → E → H → Rr := (fun st e h => rChk o170_13 ((e, h) :: st) 39 [(31, 29)] ((Qxr (rJ170_2 C k) (Qxr (rJ170_1 C k) (rQ170 C k))) X.normal e h))
def rK170_17 (C : Nat → List V → H → Rr) (k : Nat) (x0 x1 x4 x26 x30 : V) (h : H) : Rr := (rB (vPick x26 (.b true) x30) fun v1 => (rG v1 false (rB (vFa 5 x4) fun v2 => (rB (vLd1 h v2) fun v3 => (rK (C 147 [x1, v3] h) fun v4 h5 => (rK170_16 C k x0 x1 x4 v1 v4 h5)))) (rK170_16 C k x0 x1 x4 v1 undefV h)))
def rJ170_17 (C : Nat → List V → H → Rr) (k : Nat) : List (E × H) → E → H → Rr := fun st e h => (rK170_17 C k (e 0) (e 1) (e 4) (e 26) (e 30) h)
theorem rp170_17 (C : Nat → List V → H → Rr) (k : Nat) : dnT C o170_9 (rS170_17 C k) = (rJ170_17 C k) := by
  refine Eq.trans (rtapp_eq (rtgrp_eq2 32 false rfl (rp170_16 C k) rfl) rfl) ?_
  kernel_rfl
def rS170_18 (C : Nat → List V → H → Rr) (k : Nat) : List (E × H) → E → H → Rr := (fun st e h => rChk o170_13 ((e, h) :: st) 39 [(31, 29)] ((Qxr (rJ170_2 C k) (Qxr (rJ170_1 C k) (rQ170 C k))) X.normal e h))
def rK170_18 (C : Nat → List V → H → Rr) (k : Nat) (x0 x1 x4 x15 x24 : V) (h : H) : Rr := (rB (vPick x15 (.b true) x24) fun v1 => (rG v1 false (rB (vFa 2 x4) fun v2 => (rB (vLd1 h v2) fun v3 => (rK (C 218 [v3] h) fun v4 h5 => (rB (un .not v4) fun v6 => (rK170_17 C k x0 x1 x4 v1 v6 h5))))) (rK170_17 C k x0 x1 x4 v1 undefV h)))
def rJ170_18 (C : Nat → List V → H → Rr) (k : Nat) : List (E × H) → E → H → Rr := fun st e h => (rK170_18 C k (e 0) (e 1) (e 4) (e 15) (e 24) h)
theorem rp170_18 (C : Nat → List V → H → Rr) (k : Nat) : dnT C o170_11 (rS170_18 C k) = (rJ170_18 C k) := by
  refine Eq.trans (rtapp_eq (rtgrp_eq2 26 false rfl (rp170_17 C k) rfl) rfl) ?_
  kernel_rfl
def rK170 (C : Nat → List V → H → Rr) (k : Nat) (x0 x1 : V) (h : H) : Rr := (rB (vNilc x0) fun v1 => (rB (vFa 35 v1) fun v2 => (rB (vFa 1 v2) fun v3 => (rB (vLdA h 7 v3) fun v4 => (rB (some (.p (some (H.nx h, 0)), H.new h ⟨false, [(.i .i64 0), (.i .i64 0), (.i .i64 0), (.i .u32 0), (.b false), (.i .i64 0), (.i .u32 0)]⟩)) fun r5 => (rB (vStore r5.2 7 r5.1 v4) fun r6 => (rB (vFa 1 r5.1) fun v7 => (rB (vLd1 r6.2 v7) fun v8 => (rB (bin .lss v8 (.i .i64 0)) fun v9 => (rG v9 false (rB (vFa 1 r5.1) fun v10 => (rB (vLd1 r6.2 v10) fun v11 => (rB (vNilc x0) fun v12 => (rB (vFa 19 v12) fun v13 => (rB (vFa 0 v13) fun v14 => (rB (vLd1 r6.2 v14) fun v15 => (rB (vLens v15) fun v16 => (rB (bin .geq v11 v16) fun v17 => (rK170_18 C k x0 x1 r5.1 v9 v17 r6.2))))))))) (rK170_18 C k x0 x1 r5.1 v9 undefV r6.2)))))))))))
theorem rp170 (C : Nat → List V → H → Rr) (k : Nat) : dn C k c170 (rQ170 C k) = fun e h => (rK170 C k (e 0) (e 1) h) := by
  refine Eq.trans (rseq_eq (rseq_eq (rp170_1 C k) (rseq_eq (rp170_2 C k) (rdraw_eq (rtapp_eq (rtgrp_eq2 15 false rfl (rp170_18 C k) rfl) rfl)))) rfl) ?_
  kernel_rfl
def F170 : RF := fun C k a h => match a with
  | [a0, a1] => rK170 C k a0 a1 h
  | _ => none
theorem ro170 : RunOK IP 170 F170 := ⟨ir170, ip170, by kernel_rfl, fun C k a h r e => by
  unfold F170 at e
  split at e
  · exact ⟨by kernel_rfl, (congrFun (congrFun (rp170 C k) _) h).trans e⟩
  · cases e⟩
theorem ip171 : IP 171 = some ir171 := rfl
def rQ171 (C : Nat → List V → H → Rr) (k : Nat) : X → E → H → Rr := Qrr rs171
def rQ171_1 (C : Nat → List V → H → Rr) (k : Nat) : X → E → H → Rr := (rQ171 C k)
def rK171_1 (C : Nat → List V → H → Rr) (k : Nat) (x0 x8 : V) (h : H) : Rr := (rB (vLdA h 15 x8) fun v1 => (rK (C 88 [x0, v1] h) fun v2 h3 => (rB (vBld [(.i .i64 0), (.i .i64 0), (.i .i64 0), (.i .i64 0), (.i .u32 0), (.b false), (.i .i64 0), (.i .u32 0), (.i .i64 0), (.i .u64 0), (.p none), (.i .i64 0), (.i .i64 0), (.i .u64 0), (.i .u64 0), (.i .u64 0), (.i .u64 0), (.i .i64 0), (.b false), (.b false), (.i .i64 0), (.i .i64 0), (.i .i64 0), (.i .i64 0), (.i .u64 0)] []) fun v4 => (rB (vNilc x0) fun v5 => (rB (vFa 35 v5) fun v6 => (rB (vStore h3 25 v6 v4) fun r7 => (some ((.tup []), r7.2))))))))
def rJ171_1 (C : Nat → List V → H → Rr) (k : Nat) : E → H → Rr := fun e h => (rK171_1 C k (e 0) (e 8) h)
theorem rp171_1 (C : Nat → List V → H → Rr) (k : Nat) : dn C k c171_1 (rQ171_1 C k) = (rJ171_1 C k) := by kernel_rfl
def rK171 (C : Nat → List V → H → Rr) (k : Nat) (x0 x1 x2 x3 : V) (h : H) : Rr := (rB (vNilc x0) fun v1 => (rB (vFa 35 v1) fun v2 => (rB (vFa 1 v2) fun v3 => (rB (vFa 6 v3) fun v4 => (rB (vLd1 h v4) fun v5 => (rB (vNilc x0) fun v6 => (rB (vFa 35 v6) fun v7 => (rB (vFa 1 v7) fun v8 => (rB (vLdA h 7 v8) fun v9 => (rB (vBld [(.i .i64 0), (.i .i64 0), (.i .u32 0), (.i .i64 0), (.i .i64 0), (.i .i64 0), (.i .u32 0), (.b false), (.i .i64 0), (.i .u32 0), (.i .i64 0), (.i .i64 0), (.i .i64 0), (.i .u32 0), (.i .i64 0)] [(0, 1, (.i .i64 1)), (2, 1, v5), (3, 7, v9), (10, 1, x1), (13, 1, x2), (14, 1, x3)]) fun v10 => (rB (some (.p (some (H.nx h, 0)), H.new h ⟨false, [(.i .i64 0), (.i .i64 0), (.i .u32 0), (.i .i64 0), (.i .i64 0), (.i .i64 0), (.i .u32 0), (.b false), (.i .i64 0), (.i .u32 0), (.i .i64 0), (.i .i64 0), (.i .i64 0), (.i .u32 0), (.i .i64 0)]⟩)) fun r11 => (rB (vStore r11.2 15 r11.1 v10) fun r12 => (rB (vNilc x0) fun v13 => (rB (vFa 29 v13) fun v14 => (rB (vLd1 r12.2 v14) fun v15 => (rB (vFa 2 r11.1) fun v16 => (rB (vLd1 r12.2 v16) fun v17 => (rK (C 90 [v15, v17] r12.2) fun v18 h19 => (rB (vEqz true .p v18 (.p none)) fun v20 => (rS v20 (rB (vNilc v18) fun v21 => (rB (vFa 12 v21) fun v22 => (rB (vLd1 h19 v22) fun v23 => (rB (vFa 11 r11.1) fun v24 => (rB (vStore h19 1 v24 v23) fun r25 => (rK171_1 C k x0 r11.1 r25.2)))))) (rK171_1 C k x0 r11.1 h19)))))))))))))))))))))
theorem rp171 (C : Nat → List V → H → Rr) (k : Nat) : dn C k c171 (rQ171 C k) = fun e h => (rK171 C k (e 0) (e 1) (e 2) (e 3) h) := by
  refine Eq.trans (rseq_eq (rseq_eq (rp171_1 C k) rfl) rfl) ?_
  kernel_rfl
def F171 : RF := fun C k a h => match a with
  | [a0, a1, a2, a3] => rK171 C k a0 a1 a2 a3 h
  | _ => none
theorem ro171 : RunOK IP 171 F171 := ⟨ir171, ip171, by kernel_rfl, fun C k a h r e => by
  unfold F171 at e
  split at e
  · exact ⟨by kernel_rfl, (congrFun (congrFun (rp171 C k) _) h).trans e⟩
  · cases e⟩
theorem ip173 : IP 173 = some ir173 := rfl
def rQ173 (C : Nat → List V → H → Rr) (k : Nat) : X → E → H → Rr := Qrr rs173
def rK173 (C : Nat → List V → H → Rr) (k : Nat) (x0 : V) (h : H) : Rr := (rB (vEqz false .p x0 (.p none)) fun v1 => (rS v1 (some ((.i .i64 0), h)) (rB (vNilc x0) fun v2 => (rB (vFa 0 v2) fun v3 => (rB (vFa 2 v3) fun v4 => (rB (vLd1 h v4) fun v5 => (some (v5, h))))))))
theorem rp173 (C : Nat → List V → H → Rr) (k : Nat) : dn C k c173 (rQ173 C k) = fun e h => (rK173 C k (e 0) h) := by kernel_rfl
def F173 : RF := fun C k a h => match a with
  | [a0] => rK173 C k a0 h
  | _ => none
theorem ro173 : RunOK IP 173 F173 := ⟨ir173, ip173, by kernel_rfl, fun C k a h r e => by
  unfold F173 at e
  split at e
  · exact ⟨by kernel_rfl, (congrFun (congrFun (rp173 C k) _) h).trans e⟩
  · cases e⟩
theorem ip177 : IP 177 = some ir177 := rfl
def rQ177 (C : Nat → List V → H → Rr) (k : Nat) : X → E → H → Rr := Qrr rs177
def rQ177_1 (C : Nat → List V → H → Rr) (k : Nat) : X → E → H → Rr := (rQ177 C k)
def rK177_1 (C : Nat → List V → H → Rr) (k : Nat) (h : H) : Rr := (some ((.b false), h))
def rJ177_1 (C : Nat → List V → H → Rr) (k : Nat) : E → H → Rr := fun e h => (rK177_1 C k h)
theorem rp177_1 (C : Nat → List V → H → Rr) (k : Nat) : dn C k c177_1 (rQ177_1 C k) = (rJ177_1 C k) := by kernel_rfl
def rQ177_2 (C : Nat → List V → H → Rr) (k : Nat) : X → E → H → Rr := (Qbr 0 (Qxr (rJ177_1 C k) (rQ177 C k)))
def rK177_2 (C : Nat → List V → H → Rr) (k : Nat) (x4 : V) (h : H) : Rr := (rS x4 (some ((.b true), h)) (rK177_1 C k h))
def rJ177_2 (C : Nat → List V → H → Rr) (k : Nat) : E → H → Rr := fun e h => (rK177_2 C k (e 4) h)
theorem rp177_2 (C : Nat → List V → H → Rr) (k : Nat) : dn C k c177_2 (rQ177_2 C k) = (rJ177_2 C k) := by kernel_rfl
def rK177 (C : Nat → List V → H → Rr) (k : Nat) (x0 : V) (h : H) : Rr := (rB (bin .eql x0 (.i .i64 4)) fun v1 => (rS v1 (rK177_2 C k v1 h) (rB (bin .eql x0 (.i .i64 5)) fun v2 => (rK177_2 C k v2 h))))
theorem rp177 (C : Nat → List V → H → Rr) (k : Nat) : dn C k c177 (rQ177 C k) = fun e h => (rK177 C k (e 0) h) := by
  refine Eq.trans (rseq_eq (rseq_eq (rp177_1 C k) (rseq_eq (rblock_eq (rseq_eq (rp177_2 C k) rfl)) rfl)) rfl) ?_
  kernel_rfl
def F177 : RF := fun C k a h => match a with
  | [a0] => rK177 C k a0 h
  | _ => none
theorem ro177 : RunOK IP 177 F177 := ⟨ir177, ip177, by kernel_rfl, fun C k a h r e => by
  unfold F177 at e
  split at e
  · exact ⟨by kernel_rfl, (congrFun (congrFun (rp177 C k) _) h).trans e⟩
  · cases e⟩
theorem ip178 : IP 178 = some ir178 := rfl
def rQ178 (C : Nat → List V → H → Rr) (k : Nat) : X → E → H → Rr := Qrr rs178
def rQ178_1 (C : Nat → List V → H → Rr) (k : Nat) : X → E → H → Rr := (rQ178 C k)
def rK178_1 (C : Nat → List V → H → Rr) (k : Nat) (x0 x1 : V) (h : H) : Rr := (rS x1 (rK (C 181 [x0] h) fun v1 h2 => (rB (bin .add v1 (.i .i64 1)) fun v3 => (rK (C 86 [v3, (.i .i64 2)] h2) fun v4 h5 => (some ((.tup [v4, (.b true)]), h5))))) (rK (C 181 [x0] h) fun v6 h7 => (rB (bin .add v6 (.i .i64 1)) fun v8 => (rK (C 86 [v8, (.i .i64 1)] h7) fun v9 h10 => (some ((.tup [v9, (.b true)]), h10))))))
def rJ178_1 (C : Nat → List V → H → Rr) (k : Nat) : E → H → Rr := fun e h => (rK178_1 C k (e 0) (e 1) h)
theorem rp178_1 (C : Nat → List V → H → Rr) (k : Nat) : dn C k c178_1 (rQ178_1 C k) = (rJ178_1 C k) := by kernel_rfl
def rQ178_2 (C : Nat → List V → H → Rr) (k : Nat) : X → E → H → Rr := (Qxr (rJ178_1 C k) (rQ178 C k))
def rK178_2 (C : Nat → List V → H → Rr) (k : Nat) (x0 x1 x17 : V) (h : H) : Rr := (rS x17 (some ((.tup [x0, (.b false)]), h)) (rK178_1 C k x0 x1 h))
def rJ178_2 (C : Nat → List V → H → Rr) (k : Nat) : E → H → Rr := fun e h => (rK178_2 C k (e 0) (e 1) (e 17) h)
theorem rp178_2 (C : Nat → List V → H → Rr) (k : Nat) : dn C k c178_2 (rQ178_2 C k) = (rJ178_2 C k) := by kernel_rfl
def rS178_6 (C : Nat → List V → H → Rr) (k : Nat) : E → H → Rr := ((Qxr (rJ178_2 C k) (Qxr (rJ178_1 C k) (rQ178 C k))) X.normal)
def rK178_6 (C : Nat → List V → H → Rr) (k : Nat) (x0 x1 x11 x16 : V) (h : H) : Rr := (rB (vPick x11 (.b true) x16) fun v1 => (rK178_2 C k x0 x1 v1 h))
def rJ178_6 (C : Nat → List V → H → Rr) (k : Nat) : E → H → Rr := fun e h => (rK178_6 C k (e 0) (e 1) (e 11) (e 16) h)
theorem rp178_6 (C : Nat → List V → H → Rr) (k : Nat) : dnOps C o178_3 (rS178_6 C k) = (rJ178_6 C k) := by
  refine Eq.trans (rapp_eq rfl rfl) ?_
  kernel_rfl
def rK178 (C : Nat → List V → H → Rr) (k : Nat) (x0 x1 x2 : V) (h : H) : Rr := (rK (C 227 [x0] h) fun v1 h2 => (rB (bin .neq v1 (.i .i64 0)) fun v3 => (rG v3 false (rK (C 181 [x0] h2) fun v4 h5 => (rB (foldO min2 x2 [(.i .i64 16777215)]) fun v6 => (rB (bin .geq v4 v6) fun v7 => (rK178_6 C k x0 x1 v3 v7 h5)))) (rK178_6 C k x0 x1 v3 undefV h2))))
theorem rp178 (C : Nat → List V → H → Rr) (k : Nat) : dn C k c178 (rQ178 C k) = fun e h => (rK178 C k (e 0) (e 1) (e 2) h) := by
  refine Eq.trans (rseq_eq (rseq_eq (rp178_1 C k) (rseq_eq (rp178_2 C k) (rregion_eq (rapp_eq (rgrp_eq2 11 false rfl (rp178_6 C k) rfl) rfl)))) rfl) ?_
  kernel_rfl
def F178 : RF := fun C k a h => match a with
  | [a0, a1, a2] => rK178 C k a0 a1 a2 h
  | _ => none
theorem ro178 : RunOK IP 178 F178 := ⟨ir178, ip178, by kernel_rfl, fun C k a h r e => by
  unfold F178 at e
  split at e
  · exact ⟨by kernel_rfl, (congrFun (congrFun (rp178 C k) _) h).trans e⟩
  · cases e⟩
theorem ip181 : IP 181 = some ir181 := rfl
def rQ181 (C : Nat → List V → H → Rr) (k : Nat) : X → E → H → Rr := Qrr rs181
def rK181 (C : Nat → List V → H → Rr) (k : Nat) (x0 : V) (h : H) : Rr := (rB (vLdA h 2 (.p (some (12, 0)))) fun v1 => (rK (C 124 [v1, x0] h) fun v2 h3 => (rB (vCvi .i64 v2) fun v4 => (some (v4, h3)))))
theorem rp181 (C : Nat → List V → H → Rr) (k : Nat) : dn C k c181 (rQ181 C k) = fun e h => (rK181 C k (e 0) h) := by kernel_rfl
def F181 : RF := fun C k a h => match a with
  | [a0] => rK181 C k a0 h
  | _ => none
theorem ro181 : RunOK IP 181 F181 := ⟨ir181, ip181, by kernel_rfl, fun C k a h r e => by
  unfold F181 at e
  split at e
  · exact ⟨by kernel_rfl, (congrFun (congrFun (rp181 C k) _) h).trans e⟩
  · cases e⟩
theorem ip182 : IP 182 = some ir182 := rfl
def rQ182 (C : Nat → List V → H → Rr) (k : Nat) : X → E → H → Rr := Qrr rs182
def rK182 (C : Nat → List V → H → Rr) (k : Nat) (x0 x1 x2 : V) (h : H) : Rr := (rB (vBox x0 h) fun r1 => (rB (vBox x2 r1.2) fun r2 => (rB (vFa 0 r1.1) fun v3 => (rB (vStore r2.2 1 v3 (.i .i64 1)) fun r4 => (rB (vFa 6 r1.1) fun v5 => (rB (vStore r4.2 1 v5 (.i .i64 0)) fun r6 => (rB (vLdA r6.2 11 r1.1) fun v7 => (rK (C 136 [x1] r6.2) fun v8 h9 => (rB (vLdA h9 2 r2.1) fun v10 => (rB (vBld [(.i .i64 0), (.i .i64 0), (.i .i64 0), (.i .i64 0), (.i .i64 0), (.i .u32 0), (.i .i64 0), (.b false), (.b false), (.i .i64 0), (.i .u32 0), (.i .i64 0), (.i .i64 0), (.i .i64 0), (.i .i64 0), (.i .i64 0), (.i .i64 0), (.i .i64 0), (.i .i64 0), (.b false)] [(0, 11, v7), (11, 1, v8), (12, 2, v10)]) fun v11 => (rB (vBox v11 h9) fun r12 => (rC (stdy true 11 r1.1 r6.2 h9) (rC (stdy true 2 r2.1 r6.2 h9) (some (r12.1, r12.2)))))))))))))))
theorem rp182 (C : Nat → List V → H → Rr) (k : Nat) : dn C k c182 (rQ182 C k) = fun e h => (rK182 C k (e 0) (e 1) (e 2) h) := by kernel_rfl
def F182 : RF := fun C k a h => match a with
  | [a0, a1, a2] => rK182 C k a0 a1 a2 h
  | _ => none
theorem ro182 : RunOK IP 182 F182 := ⟨ir182, ip182, by kernel_rfl, fun C k a h r e => by
  unfold F182 at e
  split at e
  · exact ⟨by kernel_rfl, (congrFun (congrFun (rp182 C k) _) h).trans e⟩
  · cases e⟩
theorem ip183 : IP 183 = some ir183 := rfl
def rQ183 (C : Nat → List V → H → Rr) (k : Nat) : X → E → H → Rr := Qrr rs183
def rK183 (C : Nat → List V → H → Rr) (k : Nat) (h : H) : Rr := (rB (vBld [(.i .i64 0), (.i .i64 0), .nsl] [(1, 1, (.i .i64 (-1)))]) fun v1 => (rB (vBox v1 h) fun r2 => (some (r2.1, r2.2))))
theorem rp183 (C : Nat → List V → H → Rr) (k : Nat) : dn C k c183 (rQ183 C k) = fun e h => (rK183 C k h) := by kernel_rfl
def F183 : RF := fun C k a h => match a with
  | [] => rK183 C k h
  | _ => none
theorem ro183 : RunOK IP 183 F183 := ⟨ir183, ip183, by kernel_rfl, fun C k a h r e => by
  unfold F183 at e
  split at e
  · exact ⟨by kernel_rfl, (congrFun (congrFun (rp183 C k) _) h).trans e⟩
  · cases e⟩
theorem ip184 : IP 184 = some ir184 := rfl
def rQ184 (C : Nat → List V → H → Rr) (k : Nat) : X → E → H → Rr := Qrr rs184
def rK184 (C : Nat → List V → H → Rr) (k : Nat) (x0 : V) (h : H) : Rr := (rB (some (.p (some (H.nx h, 0)), H.new h ⟨false, [(.i .i64 0), (.i .i64 0), (.i .i64 0)]⟩)) fun r1 => (rK (C 117 [x0] r1.2) fun v2 h3 => (rB (vBld [(.i .i64 0), (.i .i64 0), (.i .i64 0)] [(0, 1, v2)]) fun v4 => (rB (vStore h3 3 r1.1 v4) fun r5 => (rB (vLdA r5.2 3 r1.1) fun v6 => (some (v6, r5.2)))))))
theorem rp184 (C : Nat → List V → H → Rr) (k : Nat) : dn C k c184 (rQ184 C k) = fun e h => (rK184 C k (e 0) h) := by kernel_rfl
def F184 : RF := fun C k a h => match a with
  | [a0] => rK184 C k a0 h
  | _ => none
theorem ro184 : RunOK IP 184 F184 := ⟨ir184, ip184, by kernel_rfl, fun C k a h r e => by
  unfold F184 at e
  split at e
  · exact ⟨by kernel_rfl, (congrFun (congrFun (rp184 C k) _) h).trans e⟩
  · cases e⟩
theorem ip185 : IP 185 = some ir185 := rfl
def rQ185 (C : Nat → List V → H → Rr) (k : Nat) : X → E → H → Rr := Qrr rs185
def rK185 (C : Nat → List V → H → Rr) (k : Nat) (x0 x1 : V) (h : H) : Rr := (rB (vBox x0 h) fun r1 => (rB (some (.p (some (H.nx r1.2, 0)), H.new r1.2 ⟨false, [(.i .i64 0), (.i .i64 0), (.i .i64 0)]⟩)) fun r2 => (rB (foldO max2 x1 [(.i .i64 0)]) fun v3 => (rB (vFa 0 r1.1) fun v4 => (rB (vLd1 r2.2 v4) fun v5 => (rB (vFa 1 r1.1) fun v6 => (rB (vLd1 r2.2 v6) fun v7 => (rB (vFa 2 r1.1) fun v8 => (rB (vLd1 r2.2 v8) fun v9 => (rB (bin .sub v7 v9) fun v10 => (rB (bin .sub v5 v10) fun v11 => (rB (foldO max2 v11 [(.i .i64 0)]) fun v12 => (rB (foldO min2 v3 [v12]) fun v13 => (rB (vFa 1 r1.1) fun v14 => (rB (vLd1 r2.2 v14) fun v15 => (rB (bin .add v15 v13) fun v16 => (rB (vFa 1 r1.1) fun v17 => (rB (vStore r2.2 1 v17 v16) fun r18 => (rB (vLdA r18.2 3 r1.1) fun v19 => (rB (vStore r18.2 3 r2.1 v19) fun r20 => (rB (vLdA r20.2 3 r2.1) fun v21 => (some ((.tup [v21, v13]), r20.2)))))))))))))))))))))))
theorem rp185 (C : Nat → List V → H → Rr) (k : Nat) : dn C k c185 (rQ185 C k) = fun e h => (rK185 C k (e 0) (e 1) h) := by kernel_rfl
def F185 : RF := fun C k a h => match a with
  | [a0, a1] => rK185 C k a0 a1 h
  | _ => none
theorem ro185 : RunOK IP 185 F185 := ⟨ir185, ip185, by kernel_rfl, fun C k a h r e => by
  unfold F185 at e
  split at e
  · exact ⟨by kernel_rfl, (congrFun (congrFun (rp185 C k) _) h).trans e⟩
  · cases e⟩
theorem ip186 : IP 186 = some ir186 := rfl
def rQ186 (C : Nat → List V → H → Rr) (k : Nat) : X → E → H → Rr := Qrr rs186
def rQ186_1 (C : Nat → List V → H → Rr) (k : Nat) : X → E → H → Rr := (rQ186 C k)
def rK186_1 (C : Nat → List V → H → Rr) (k : Nat) (x0 x1 : V) (h : H) : Rr := (rB (vNilc x0) fun v1 => (rB (vFa 1 v1) fun v2 => (rB (vLd1 h v2) fun v3 => (rB (vNewSl 1 [(.p none)] [(0, 1, x1)] h) fun r4 => (rB (vApp 1 8 v3 r4.1 r4.2) fun r5 => (rB (vNilc x0) fun v6 => (rB (vFa 1 v6) fun v7 => (rB (vStore r5.2 1 v7 r5.1) fun r8 => (some ((.b true), r8.2))))))))))
def rJ186_1 (C : Nat → List V → H → Rr) (k : Nat) : E → H → Rr := fun e h => (rK186_1 C k (e 0) (e 1) h)
theorem rp186_1 (C : Nat → List V → H → Rr) (k : Nat) : dn C k c186_1 (rQ186_1 C k) = (rJ186_1 C k) := by kernel_rfl
def rQ186_2 (C : Nat → List V → H → Rr) (k : Nat) : X → E → H → Rr := (Qxr (rJ186_1 C k) (rQ186 C k))
def rK186_2 (C : Nat → List V → H → Rr) (k : Nat) (x0 x1 x21 : V) (h : H) : Rr := (rS x21 (some ((.b false), h)) (rK186_1 C k x0 x1 h))
def rJ186_2 (C : Nat → List V → H → Rr) (k : Nat) : E → H → Rr := fun e h => (rK186_2 C k (e 0) (e 1) (e 21) h)
theorem rp186_2 (C : Nat → List V → H → Rr) (k : Nat) : dn C k c186_2 (rQ186_2 C k) = (rJ186_2 C k) := by kernel_rfl
def rS186_8 (C : Nat → List V → H → Rr) (k : Nat) : E → H → Rr := ((Qxr (rJ186_2 C k) (Qxr (rJ186_1 C k) (rQ186 C k))) X.normal)
def rK186_8 (C : Nat → List V → H → Rr) (k : Nat) (x0 x1 x12 x20 : V) (h : H) : Rr := (rB (vPick x12 (.b true) x20) fun v1 => (rK186_2 C k x0 x1 v1 h))
def rJ186_8 (C : Nat → List V → H → Rr) (k : Nat) : E → H → Rr := fun e h => (rK186_8 C k (e 0) (e 1) (e 12) (e 20) h)
theorem rp186_8 (C : Nat → List V → H → Rr) (k : Nat) : dnOps C o186_3 (rS186_8 C k) = (rJ186_8 C k) := by
  refine Eq.trans (rapp_eq rfl rfl) ?_
  kernel_rfl
def rS186_9 (C : Nat → List V → H → Rr) (k : Nat) : E → H → Rr := ((Qxr (rJ186_2 C k) (Qxr (rJ186_1 C k) (rQ186 C k))) X.normal)
def rK186_9 (C : Nat → List V → H → Rr) (k : Nat) (x0 x1 x7 x10 : V) (h : H) : Rr := (rB (vPick x7 (.b true) x10) fun v1 => (rG v1 false (rB (vNilc x1) fun v2 => (rB (vFa 0 v2) fun v3 => (rB (vFa 5 v3) fun v4 => (rB (vLd1 h v4) fun v5 => (rK (C 90 [x0, v5] h) fun v6 h7 => (rB (vEqz true .p v6 (.p none)) fun v8 => (rK186_8 C k x0 x1 v1 v8 h7))))))) (rK186_8 C k x0 x1 v1 undefV h)))
def rJ186_9 (C : Nat → List V → H → Rr) (k : Nat) : E → H → Rr := fun e h => (rK186_9 C k (e 0) (e 1) (e 7) (e 10) h)
theorem rp186_9 (C : Nat → List V → H → Rr) (k : Nat) : dnOps C o186_5 (rS186_9 C k) = (rJ186_9 C k) := by
  refine Eq.trans (rapp_eq (rgrp_eq2 12 false rfl (rp186_8 C k) rfl) rfl) ?_
  kernel_rfl
def rK186 (C : Nat → List V → H → Rr) (k : Nat) (x0 x1 : V) (h : H) : Rr := (rB (vEqz false .p x1 (.p none)) fun v1 => (rG v1 false (rK (C 219 [x0] h) fun v2 h3 => (rB (un .not v2) fun v4 => (rK186_9 C k x0 x1 v1 v4 h3))) (rK186_9 C k x0 x1 v1 undefV h)))
theorem rp186 (C : Nat → List V → H → Rr) (k : Nat) : dn C k c186 (rQ186 C k) = fun e h => (rK186 C k (e 0) (e 1) h) := by
  refine Eq.trans (rseq_eq (rseq_eq (rp186_1 C k) (rseq_eq (rp186_2 C k) (rregion_eq (rapp_eq (rgrp_eq2 7 false rfl (rp186_9 C k) rfl) rfl)))) rfl) ?_
  kernel_rfl
def F186 : RF := fun C k a h => match a with
  | [a0, a1] => rK186 C k a0 a1 h
  | _ => none
theorem ro186 : RunOK IP 186 F186 := ⟨ir186, ip186, by kernel_rfl, fun C k a h r e => by
  unfold F186 at e
  split at e
  · exact ⟨by kernel_rfl, (congrFun (congrFun (rp186 C k) _) h).trans e⟩
  · cases e⟩
theorem ip187 : IP 187 = some ir187 := rfl
def rQ187 (C : Nat → List V → H → Rr) (k : Nat) : X → E → H → Rr := Qrr rs187
def rK187 (C : Nat → List V → H → Rr) (k : Nat) (x0 : V) (h : H) : Rr := (rB (vBox x0 h) fun r1 => (rB (some (.p (some (H.nx r1.2, 0)), H.new r1.2 ⟨false, [(.i .i64 0), (.i .i64 0), (.i .i64 0), (.i .i64 0), (.i .i64 0), (.i .u32 0), (.i .i64 0), (.b false), (.b false), (.i .i64 0), (.i .u32 0)]⟩)) fun r2 => (rB (vLdA r2.2 5 r1.1) fun v3 => (rK (C 234 [v3] r2.2) fun v4 h5 => (rB (un .not v4) fun v6 => (rS v6 (rB (vBld [(.i .i64 0), (.i .i64 0), (.i .i64 0), (.i .i64 0), (.i .i64 0), (.i .u32 0), (.i .i64 0), (.b false), (.b false), (.i .i64 0), (.i .u32 0)] []) fun v7 => (rB (vStore h5 11 r2.1 v7) fun r8 => (rB (vLdA r8.2 11 r2.1) fun v9 => (some ((.tup [v9, (.b false)]), r8.2))))) (rB (vFa 1 r1.1) fun v10 => (rB (vLd1 h5 v10) fun v11 => (rB (vFa 2 r1.1) fun v12 => (rB (vLd1 h5 v12) fun v13 => (rB (vFa 3 r1.1) fun v14 => (rB (vLd1 h5 v14) fun v15 => (rB (vFa 4 r1.1) fun v16 => (rB (vLd1 h5 v16) fun v17 => (rB (vBld [(.i .i64 0), (.i .i64 0), (.i .i64 0), (.i .i64 0), (.i .i64 0), (.i .u32 0), (.i .i64 0), (.b false), (.b false), (.i .i64 0), (.i .u32 0)] [(0, 1, (.i .i64 9)), (1, 1, v11), (3, 1, v13), (4, 1, v15), (6, 1, v17)]) fun v18 => (rB (vFa 0 r1.1) fun v19 => (rB (vLd1 h5 v19) fun v20 => (rK (C 235 [v18, v20] h5) fun v21 h22 => (rB (vStore h22 11 r2.1 v21) fun r23 => (rB (vLdA r23.2 11 r2.1) fun v24 => (some ((.tup [v24, (.b true)]), r23.2))))))))))))))))))))))
theorem rp187 (C : Nat → List V → H → Rr) (k : Nat) : dn C k c187 (rQ187 C k) = fun e h => (rK187 C k (e 0) h) := by kernel_rfl
def F187 : RF := fun C k a h => match a with
  | [a0] => rK187 C k a0 h
  | _ => none
theorem ro187 : RunOK IP 187 F187 := ⟨ir187, ip187, by kernel_rfl, fun C k a h r e => by
  unfold F187 at e
  split at e
  · exact ⟨by kernel_rfl, (congrFun (congrFun (rp187 C k) _) h).trans e⟩
  · cases e⟩
theorem ip188 : IP 188 = some ir188 := rfl
def rQ188 (C : Nat → List V → H → Rr) (k : Nat) : X → E → H → Rr := Qrr rs188
def rQ188_1 (C : Nat → List V → H → Rr) (k : Nat) : X → E → H → Rr := (rQ188 C k)
def rK188_1 (C : Nat → List V → H → Rr) (k : Nat) (x0 x1 : V) (h : H) : Rr := (rK (C 236 [x0, x1] h) fun v1 h2 => (rK (C 237 [x0] h2) fun v3 h4 => (rB (vApp 17 128 v1 v3 h4) fun r5 => (some (r5.1, r5.2)))))
def rJ188_1 (C : Nat → List V → H → Rr) (k : Nat) : E → H → Rr := fun e h => (rK188_1 C k (e 0) (e 1) h)
theorem rp188_1 (C : Nat → List V → H → Rr) (k : Nat) : dn C k c188_1 (rQ188_1 C k) = (rJ188_1 C k) := by kernel_rfl
def rQ188_2 (C : Nat → List V → H → Rr) (k : Nat) : X → E → H → Rr := (Qxr (rJ188_1 C k) (rQ188 C k))
def rK188_2 (C : Nat → List V → H → Rr) (k : Nat) (x0 x1 x13 : V) (h : H) : Rr := (rS x13 (some (V.nsl, h)) (rK188_1 C k x0 x1 h))
def rJ188_2 (C : Nat → List V → H → Rr) (k : Nat) : E → H → Rr := fun e h => (rK188_2 C k (e 0) (e 1) (e 13) h)
theorem rp188_2 (C : Nat → List V → H → Rr) (k : Nat) : dn C k c188_2 (rQ188_2 C k) = (rJ188_2 C k) := by kernel_rfl
def rS188_6 (C : Nat → List V → H → Rr) (k : Nat) : E → H → Rr := ((Qxr (rJ188_2 C k) (Qxr (rJ188_1 C k) (rQ188 C k))) X.normal)
def rK188_6 (C : Nat → List V → H → Rr) (k : Nat) (x0 x1 x7 x12 : V) (h : H) : Rr := (rB (vPick x7 (.b true) x12) fun v1 => (rK188_2 C k x0 x1 v1 h))
def rJ188_6 (C : Nat → List V → H → Rr) (k : Nat) : E → H → Rr := fun e h => (rK188_6 C k (e 0) (e 1) (e 7) (e 12) h)
theorem rp188_6 (C : Nat → List V → H → Rr) (k : Nat) : dnOps C o188_3 (rS188_6 C k) = (rJ188_6 C k) := by
  refine Eq.trans (rapp_eq rfl rfl) ?_
  kernel_rfl
def rK188 (C : Nat → List V → H → Rr) (k : Nat) (x0 x1 : V) (h : H) : Rr := (rB (vEqz false .p x0 (.p none)) fun v1 => (rG v1 false (rB (vNilc x0) fun v2 => (rB (vFa 14 v2) fun v3 => (rB (vLd1 h v3) fun v4 => (rB (bin .gtr v4 (.i .i64 0)) fun v5 => (rK188_6 C k x0 x1 v1 v5 h))))) (rK188_6 C k x0 x1 v1 undefV h)))
theorem rp188 (C : Nat → List V → H → Rr) (k : Nat) : dn C k c188 (rQ188 C k) = fun e h => (rK188 C k (e 0) (e 1) h) := by
  refine Eq.trans (rseq_eq (rseq_eq (rp188_1 C k) (rseq_eq (rp188_2 C k) (rregion_eq (rapp_eq (rgrp_eq2 7 false rfl (rp188_6 C k) rfl) rfl)))) rfl) ?_
  kernel_rfl
def F188 : RF := fun C k a h => match a with
  | [a0, a1] => rK188 C k a0 a1 h
  | _ => none
theorem ro188 : RunOK IP 188 F188 := ⟨ir188, ip188, by kernel_rfl, fun C k a h r e => by
  unfold F188 at e
  split at e
  · exact ⟨by kernel_rfl, (congrFun (congrFun (rp188 C k) _) h).trans e⟩
  · cases e⟩
theorem ip189 : IP 189 = some ir189 := rfl
def rQ189 (C : Nat → List V → H → Rr) (k : Nat) : X → E → H → Rr := Qrr rs189
def rQ189_1 (C : Nat → List V → H → Rr) (k : Nat) : X → E → H → Rr := (rQ189 C k)
def rK189_1 (C : Nat → List V → H → Rr) (k : Nat) (h : H) : Rr := (some ((.b false), h))
def rJ189_1 (C : Nat → List V → H → Rr) (k : Nat) : E → H → Rr := fun e h => (rK189_1 C k h)
theorem rp189_1 (C : Nat → List V → H → Rr) (k : Nat) : dn C k c189_1 (rQ189_1 C k) = (rJ189_1 C k) := by kernel_rfl
def rR189_2 (C : Nat → List V → H → Rr) (k : Nat) : X → E → H → Rr := (Qbr 0 (Qxr (rJ189_1 C k) (rQ189 C k)))
def rQ189_2 (C : Nat → List V → H → Rr) (k : Nat) (g189_2 : V → V → V → V → H → Rr) : X → E → H → Rr := Qxr (fun e h => g189_2 (e 0) (e 9) (e 10) (e 11) h) (rR189_2 C k)
def rQ189_3 (C : Nat → List V → H → Rr) (k : Nat) (g189_2 : V → V → V → V → H → Rr) : X → E → H → Rr := (rQ189_2 C k g189_2)
def rK189_3 (C : Nat → List V → H → Rr) (k : Nat) (g189_2 : V → V → V → V → H → Rr) (x0 x9 x10 x11 : V) (h : H) : Rr := (rB (bin .add x11 (.i .i64 1)) fun v1 => (g189_2 x0 x9 x10 v1 h))
def rJ189_3 (C : Nat → List V → H → Rr) (k : Nat) (g189_2 : V → V → V → V → H → Rr) : E → H → Rr := fun e h => (rK189_3 C k g189_2 (e 0) (e 9) (e 10) (e 11) h)
theorem rp189_3 (C : Nat → List V → H → Rr) (k : Nat) (g189_2 : V → V → V → V → H → Rr) : dn C k c189_3 (rQ189_3 C k g189_2) = (rJ189_3 C k g189_2) := by kernel_rfl
def rL189_2 (C : Nat → List V → H → Rr) (k : Nat) (g189_2 : V → V → V → V → H → Rr) (x0 x9 x10 x11 : V) (h : H) : Rr := (rB (bin .lss x11 x10) fun v1 => (rS v1 (rB (vIa 17 x9 x11) fun v2 => (rB (vLdA h 17 v2) fun v3 => (rB (some (.p (some (H.nx h, 0)), H.new h ⟨false, [(.i .i64 0), (.i .i64 0), (.i .i64 0), (.i .i64 0), (.i .i64 0), (.i .i64 0), (.i .u32 0), (.i .i64 0), (.b false), (.b false), (.i .i64 0), (.i .u32 0), (.i .i64 0), (.i .i64 0), (.i .i64 0), (.i .i64 0), (.i .i64 0)]⟩)) fun r4 => (rB (vStore r4.2 17 r4.1 v3) fun r5 => (rB (vFa 0 r4.1) fun v6 => (rB (vLd1 r5.2 v6) fun v7 => (rB (bin .eql v7 (.i .i64 1)) fun v8 => (rS v8 (rB (vNilc x0) fun v9 => (rB (vFa 33 v9) fun v10 => (rB (vLd1 r5.2 v10) fun v11 => (rB (vFa 1 r4.1) fun v12 => (rB (vLdA r5.2 11 v12) fun v13 => (rK (C 226 [v11, v13] r5.2) fun v14 h15 => (rK189_3 C k g189_2 x0 x9 x10 x11 h15))))))) (rB (bin .eql v7 (.i .i64 2)) fun v16 => (rS v16 (rB (vFa 12 r4.1) fun v17 => (rB (vLdA r5.2 5 v17) fun v18 => (rK (C 187 [v18] r5.2) fun v19 h20 => (rB (vExt v19 0) fun v21 => (rB (vExt v19 1) fun v22 => (rB (some (.p (some (H.nx h20, 0)), H.new h20 ⟨false, [(.i .i64 0), (.i .i64 0), (.i .i64 0), (.i .i64 0), (.i .i64 0), (.i .u32 0), (.i .i64 0), (.b false), (.b false), (.i .i64 0), (.i .u32 0)]⟩)) fun r23 => (rB (vStore r23.2 11 r23.1 v21) fun r24 => (rS v22 (rB (vNilc x0) fun v25 => (rB (vFa 33 v25) fun v26 => (rB (vLd1 r24.2 v26) fun v27 => (rB (vLdA r24.2 11 r23.1) fun v28 => (rK (C 226 [v27, v28] r24.2) fun v29 h30 => (rK189_3 C k g189_2 x0 x9 x10 x11 h30)))))) (rK189_3 C k g189_2 x0 x9 x10 x11 r24.2))))))))) (rB (bin .eql v7 (.i .i64 3)) fun v31 => (rS v31 (some ((.b true), r5.2)) (rK189_3 C k g189_2 x0 x9 x10 x11 r5.2))))))))))))) (rK189_1 C k h)))
theorem rp189_2 (C : Nat → List V → H → Rr) (k : Nat) (g189_2 : V → V → V → V → H → Rr) : dn C k c189_2 (rQ189_2 C k g189_2) = fun e h => (rL189_2 C k g189_2 (e 0) (e 9) (e 10) (e 11) h) := by
  refine Eq.trans (rseq_eq (rseq_eq (rseq_eq (rp189_3 C k g189_2) rfl) rfl) rfl) ?_
  kernel_rfl
def rW189_2 (C : Nat → List V → H → Rr) (k : Nat) (x0 x9 x10 x11 : V) (h : H) : Rr := rFix k (fun (g : V × V × V × V × Unit → H → Rr) (x : V × V × V × V × Unit) h => rL189_2 C k (fun y0 y9 y10 y11 h => g (y0, y9, y10, y11, ()) h) x.1 x.2.1 x.2.2.1 x.2.2.2.1 h) (x0, x9, x10, x11, ()) h
theorem rn189_2 (C : Nat → List V → H → Rr) (k : Nat) : ∀ g : V × V × V × V × Unit → H → Rr, dn C k c189_2 (Qxr (fun e h => g ((fun e : E => ((e 0, e 9, e 10, e 11, ()) : V × V × V × V × Unit)) e) h) (rR189_2 C k)) = fun e h => (fun (g : V × V × V × V × Unit → H → Rr) (x : V × V × V × V × Unit) h => rL189_2 C k (fun y0 y9 y10 y11 h => g (y0, y9, y10, y11, ()) h) x.1 x.2.1 x.2.2.1 x.2.2.2.1 h) g ((fun e : E => ((e 0, e 9, e 10, e 11, ()) : V × V × V × V × Unit)) e) h := fun g => rp189_2 C k (fun y0 y9 y10 y11 h => g (y0, y9, y10, y11, ()) h)
theorem rw189_2 (C : Nat → List V → H → Rr) (k : Nat) : dn C k (.loop c189_2) (rR189_2 C k) = fun e h => (rW189_2 C k (e 0) (e 9) (e 10) (e 11) h) := rloop_eq (fun e : E => ((e 0, e 9, e 10, e 11, ()) : V × V × V × V × Unit)) (fun (g : V × V × V × V × Unit → H → Rr) (x : V × V × V × V × Unit) h => rL189_2 C k (fun y0 y9 y10 y11 h => g (y0, y9, y10, y11, ()) h) x.1 x.2.1 x.2.2.1 x.2.2.2.1 h) (rn189_2 C k)
def rK189 (C : Nat → List V → H → Rr) (k : Nat) (x0 x1 : V) (h : H) : Rr := (rB (vLens x1) fun v1 => (rW189_2 C k x0 x1 v1 (.i .i64 0) h))
theorem rp189 (C : Nat → List V → H → Rr) (k : Nat) : dn C k c189 (rQ189 C k) = fun e h => (rK189 C k (e 0) (e 1) h) := by
  refine Eq.trans (rseq_eq (rseq_eq (rp189_1 C k) (rseq_eq (rblock_eq (rw189_2 C k)) rfl)) rfl) ?_
  kernel_rfl
def F189 : RF := fun C k a h => match a with
  | [a0, a1] => rK189 C k a0 a1 h
  | _ => none
theorem ro189 : RunOK IP 189 F189 := ⟨ir189, ip189, by kernel_rfl, fun C k a h r e => by
  unfold F189 at e
  split at e
  · exact ⟨by kernel_rfl, (congrFun (congrFun (rp189 C k) _) h).trans e⟩
  · cases e⟩
theorem ip190 : IP 190 = some ir190 := rfl
def rQ190 (C : Nat → List V → H → Rr) (k : Nat) : X → E → H → Rr := Qrr rs190
def rQ190_1 (C : Nat → List V → H → Rr) (k : Nat) : X → E → H → Rr := (rQ190 C k)
def rQ190_2 (C : Nat → List V → H → Rr) (k : Nat) : X → E → H → Rr := (rQ190_1 C k)
def rK190_2 (C : Nat → List V → H → Rr) (k : Nat) (x0 x4 : V) (h : H) : Rr := (rB (vFa 0 x4) fun v1 => (rB (vStore h 1 v1 (.i .i64 8)) fun r2 => (rB (vNilc x0) fun v3 => (rB (vFa 33 v3) fun v4 => (rB (vLd1 r2.2 v4) fun v5 => (rB (vLdA r2.2 11 x4) fun v6 => (rK (C 226 [v5, v6] r2.2) fun v7 h8 => (some ((.tup []), h8)))))))))
def rJ190_2 (C : Nat → List V → H → Rr) (k : Nat) : E → H → Rr := fun e h => (rK190_2 C k (e 0) (e 4) h)
theorem rp190_2 (C : Nat → List V → H → Rr) (k : Nat) : dn C k c190_2 (rQ190_2 C k) = (rJ190_2 C k) := by kernel_rfl
def rQ190_3 (C : Nat → List V → H → Rr) (k : Nat) : X → E → H → Rr := (Qxr (rJ190_2 C k) (rQ190_1 C k))
def rK190_3 (C : Nat → List V → H → Rr) (k : Nat) (x0 x4 x43 : V) (h : H) : Rr := (rS x43 (rB (vFa 0 x4) fun v1 => (rB (vStore h 1 v1 (.i .i64 5)) fun r2 => (rB (vNilc x0) fun v3 => (rB (vFa 33 v3) fun v4 => (rB (vLd1 r2.2 v4) fun v5 => (rB (vLdA r2.2 11 x4) fun v6 => (rK (C 226 [v5, v6] r2.2) fun v7 h8 => (rK190_2 C k x0 x4 h8)))))))) (rK190_2 C k x0 x4 h))
def rJ190_3 (C : Nat → List V → H → Rr) (k : Nat) : E → H → Rr := fun e h => (rK190_3 C k (e 0) (e 4) (e 43) h)
theorem rp190_3 (C : Nat → List V → H → Rr) (k : Nat) : dn C k c190_3 (rQ190_3 C k) = (rJ190_3 C k) := by kernel_rfl
def rS190_7 (C : Nat → List V → H → Rr) (k : Nat) : E → H → Rr := ((Qxr (rJ190_3 C k) (Qxr (rJ190_2 C k) (rQ190_1 C k))) X.normal)
def rK190_7 (C : Nat → List V → H → Rr) (k : Nat) (x0 x4 x37 x42 : V) (h : H) : Rr := (rB (vPick x37 x42 (.b false)) fun v1 => (rK190_3 C k x0 x4 v1 h))
def rJ190_7 (C : Nat → List V → H → Rr) (k : Nat) : E → H → Rr := fun e h => (rK190_7 C k (e 0) (e 4) (e 37) (e 42) h)
theorem rp190_7 (C : Nat → List V → H → Rr) (k : Nat) : dnOps C o190_4 (rS190_7 C k) = (rJ190_7 C k) := by
  refine Eq.trans (rapp_eq rfl rfl) ?_
  kernel_rfl
def rK190_1 (C : Nat → List V → H → Rr) (k : Nat) (x0 x1 : V) (h : H) : Rr := (rB (vNilc x1) fun v1 => (rB (vFa 21 v1) fun v2 => (rB (vStore h 1 v2 (.b true)) fun r3 => (rB (vNilc x1) fun v4 => (rB (vFa 0 v4) fun v5 => (rB (vLdA r3.2 11 v5) fun v6 => (rB (some (.p (some (H.nx r3.2, 0)), H.new r3.2 ⟨false, [(.i .i64 0), (.i .i64 0), (.i .i64 0), (.i .i64 0), (.i .i64 0), (.i .u32 0), (.i .i64 0), (.b false), (.b false), (.i .i64 0), (.i .u32 0)]⟩)) fun r7 => (rB (vStore r7.2 11 r7.1 v6) fun r8 => (rB (vFa 9 r7.1) fun v9 => (rB (vStore r8.2 1 v9 (.i .i64 0)) fun r10 => (rB (vFa 10 r7.1) fun v11 => (rB (vStore r10.2 1 v11 (.i .u32 0)) fun r12 => (rB (vNilc x1) fun v13 => (rB (vFa 12 v13) fun v14 => (rB (vLd1 r12.2 v14) fun v15 => (rB (bin .neq v15 (.i .i64 1)) fun v16 => (rG v16 true (rB (vNilc x1) fun v17 => (rB (vFa 12 v17) fun v18 => (rB (vLd1 r12.2 v18) fun v19 => (rB (bin .neq v19 (.i .i64 2)) fun v20 => (rK190_7 C k x0 r7.1 v16 v20 r12.2))))) (rK190_7 C k x0 r7.1 v16 undefV r12.2))))))))))))))))))
def rJ190_1 (C : Nat → List V → H → Rr) (k : Nat) : E → H → Rr := fun e h => (rK190_1 C k (e 0) (e 1) h)
theorem rp190_1 (C : Nat → List V → H → Rr) (k : Nat) : dn C k c190_1 (rQ190_1 C k) = (rJ190_1 C k) := by
  refine Eq.trans (rseq_eq (rseq_eq (rseq_eq (rseq_eq (rp190_2 C k) (rseq_eq (rp190_3 C k) (rregion_eq (rapp_eq (rgrp_eq2 37 true rfl (rp190_7 C k) rfl) rfl)))) rfl) rfl) rfl) ?_
  kernel_rfl
def rQ190_8 (C : Nat → List V → H → Rr) (k : Nat) : X → E → H → Rr := (Qxr (rJ190_1 C k) (rQ190 C k))
def rK190_8 (C : Nat → List V → H → Rr) (k : Nat) (x0 x1 x22 : V) (h : H) : Rr := (rS x22 (some ((.tup []), h)) (rK190_1 C k x0 x1 h))
def rJ190_8 (C : Nat → List V → H → Rr) (k : Nat) : E → H → Rr := fun e h => (rK190_8 C k (e 0) (e 1) (e 22) h)
theorem rp190_8 (C : Nat → List V → H → Rr) (k : Nat) : dn C k c190_8 (rQ190_8 C k) = (rJ190_8 C k) := by kernel_rfl
def rS190_14 (C : Nat → List V → H → Rr) (k : Nat) : E → H → Rr := ((Qxr (rJ190_8 C k) (Qxr (rJ190_1 C k) (rQ190 C k))) X.normal)
def rK190_14 (C : Nat → List V → H → Rr) (k : Nat) (x0 x1 x16 x21 : V) (h : H) : Rr := (rB (vPick x16 (.b true) x21) fun v1 => (rK190_8 C k x0 x1 v1 h))
def rJ190_14 (C : Nat → List V → H → Rr) (k : Nat) : E → H → Rr := fun e h => (rK190_14 C k (e 0) (e 1) (e 16) (e 21) h)
theorem rp190_14 (C : Nat → List V → H → Rr) (k : Nat) : dnOps C o190_9 (rS190_14 C k) = (rJ190_14 C k) := by
  refine Eq.trans (rapp_eq rfl rfl) ?_
  kernel_rfl
def rS190_15 (C : Nat → List V → H → Rr) (k : Nat) : E → H → Rr := ((Qxr (rJ190_8 C k) (Qxr (rJ190_1 C k) (rQ190 C k))) X.normal)
def rK190_15 (C : Nat → List V → H → Rr) (k : Nat) (x0 x1 x9 x14 : V) (h : H) : Rr := (rB (vPick x9 (.b true) x14) fun v1 => (rG v1 false (rB (vNilc x1) fun v2 => (rB (vFa 12 v2) fun v3 => (rB (vLd1 h v3) fun v4 => (rB (bin .eql v4 (.i .i64 0)) fun v5 => (rK190_14 C k x0 x1 v1 v5 h))))) (rK190_14 C k x0 x1 v1 undefV h)))
def rJ190_15 (C : Nat → List V → H → Rr) (k : Nat) : E → H → Rr := fun e h => (rK190_15 C k (e 0) (e 1) (e 9) (e 14) h)
theorem rp190_15 (C : Nat → List V → H → Rr) (k : Nat) : dnOps C o190_11 (rS190_15 C k) = (rJ190_15 C k) := by
  refine Eq.trans (rapp_eq (rgrp_eq2 16 false rfl (rp190_14 C k) rfl) rfl) ?_
  kernel_rfl
def rK190 (C : Nat → List V → H → Rr) (k : Nat) (x0 x1 : V) (h : H) : Rr := (rB (vNilc x1) fun v1 => (rB (vFa 19 v1) fun v2 => (rB (vLd1 h v2) fun v3 => (rG v3 false (rB (vNilc x1) fun v4 => (rB (vFa 20 v4) fun v5 => (rB (vLd1 h v5) fun v6 => (rB (un .not v6) fun v7 => (rK190_15 C k x0 x1 v3 v7 h))))) (rK190_15 C k x0 x1 v3 undefV h)))))
theorem rp190 (C : Nat → List V → H → Rr) (k : Nat) : dn C k c190 (rQ190 C k) = fun e h => (rK190 C k (e 0) (e 1) h) := by
  refine Eq.trans (rseq_eq (rp190_1 C k) (rseq_eq (rp190_8 C k) (rregion_eq (rapp_eq (rgrp_eq2 9 false rfl (rp190_15 C k) rfl) rfl)))) ?_
  kernel_rfl
def F190 : RF := fun C k a h => match a with
  | [a0, a1] => rK190 C k a0 a1 h
  | _ => none
theorem ro190 : RunOK IP 190 F190 := ⟨ir190, ip190, by kernel_rfl, fun C k a h r e => by
  unfold F190 at e
  split at e
  · exact ⟨by kernel_rfl, (congrFun (congrFun (rp190 C k) _) h).trans e⟩
  · cases e⟩
theorem ip207 : IP 207 = some ir207 := rfl
def rQ207 (C : Nat → List V → H → Rr) (k : Nat) : X → E → H → Rr := Qrr rs207
def rQ207_1 (C : Nat → List V → H → Rr) (k : Nat) : X → E → H → Rr := (rQ207 C k)
def rK207_1 (C : Nat → List V → H → Rr) (k : Nat) (h : H) : Rr := (some ((.i .i64 (-1)), h))
def rJ207_1 (C : Nat → List V → H → Rr) (k : Nat) : E → H → Rr := fun e h => (rK207_1 C k h)
theorem rp207_1 (C : Nat → List V → H → Rr) (k : Nat) : dn C k c207_1 (rQ207_1 C k) = (rJ207_1 C k) := by kernel_rfl
def rR207_2 (C : Nat → List V → H → Rr) (k : Nat) : X → E → H → Rr := (Qbr 0 (Qxr (rJ207_1 C k) (rQ207 C k)))
def rQ207_2 (C : Nat → List V → H → Rr) (k : Nat) (g207_2 : V → V → V → V → H → Rr) : X → E → H → Rr := Qxr (fun e h => g207_2 (e 0) (e 1) (e 7) (e 8) h) (rR207_2 C k)
def rL207_2 (C : Nat → List V → H → Rr) (k : Nat) (g207_2 : V → V → V → V → H → Rr) (x0 x1 x7 x8 : V) (h : H) : Rr := (rB (bin .lss x8 x7) fun v1 => (rS v1 (rB (vIa 1 x0 x8) fun v2 => (rB (vLd1 h v2) fun v3 => (rB (bin .eql x1 v3) fun v4 => (rS v4 (some (x8, h)) (rB (bin .add x8 (.i .i64 1)) fun v5 => (g207_2 x0 x1 x7 v5 h)))))) (rK207_1 C k h)))
theorem rp207_2 (C : Nat → List V → H → Rr) (k : Nat) (g207_2 : V → V → V → V → H → Rr) : dn C k c207_2 (rQ207_2 C k g207_2) = fun e h => (rL207_2 C k g207_2 (e 0) (e 1) (e 7) (e 8) h) := by kernel_rfl
def rW207_2 (C : Nat → List V → H → Rr) (k : Nat) (x0 x1 x7 x8 : V) (h : H) : Rr := rFix k (fun (g : V × V × V × V × Unit → H → Rr) (x : V × V × V × V × Unit) h => rL207_2 C k (fun y0 y1 y7 y8 h => g (y0, y1, y7, y8, ()) h) x.1 x.2.1 x.2.2.1 x.2.2.2.1 h) (x0, x1, x7, x8, ()) h
theorem rn207_2 (C : Nat → List V → H → Rr) (k : Nat) : ∀ g : V × V × V × V × Unit → H → Rr, dn C k c207_2 (Qxr (fun e h => g ((fun e : E => ((e 0, e 1, e 7, e 8, ()) : V × V × V × V × Unit)) e) h) (rR207_2 C k)) = fun e h => (fun (g : V × V × V × V × Unit → H → Rr) (x : V × V × V × V × Unit) h => rL207_2 C k (fun y0 y1 y7 y8 h => g (y0, y1, y7, y8, ()) h) x.1 x.2.1 x.2.2.1 x.2.2.2.1 h) g ((fun e : E => ((e 0, e 1, e 7, e 8, ()) : V × V × V × V × Unit)) e) h := fun g => rp207_2 C k (fun y0 y1 y7 y8 h => g (y0, y1, y7, y8, ()) h)
theorem rw207_2 (C : Nat → List V → H → Rr) (k : Nat) : dn C k (.loop c207_2) (rR207_2 C k) = fun e h => (rW207_2 C k (e 0) (e 1) (e 7) (e 8) h) := rloop_eq (fun e : E => ((e 0, e 1, e 7, e 8, ()) : V × V × V × V × Unit)) (fun (g : V × V × V × V × Unit → H → Rr) (x : V × V × V × V × Unit) h => rL207_2 C k (fun y0 y1 y7 y8 h => g (y0, y1, y7, y8, ()) h) x.1 x.2.1 x.2.2.1 x.2.2.2.1 h) (rn207_2 C k)
def rK207 (C : Nat → List V → H → Rr) (k : Nat) (x0 x1 : V) (h : H) : Rr := (rB (vLens x0) fun v1 => (rW207_2 C k x0 x1 v1 (.i .i64 0) h))
theorem rp207 (C : Nat → List V → H → Rr) (k : Nat) : dn C k c207 (rQ207 C k) = fun e h => (rK207 C k (e 0) (e 1) h) := by
  refine Eq.trans (rseq_eq (rseq_eq (rp207_1 C k) (rseq_eq (rblock_eq (rw207_2 C k)) rfl)) rfl) ?_
  kernel_rfl
def F207 : RF := fun C k a h => match a with
  | [a0, a1] => rK207 C k a0 a1 h
  | _ => none
theorem ro207 : RunOK IP 207 F207 := ⟨ir207, ip207, by kernel_rfl, fun C k a h r e => by
  unfold F207 at e
  split at e
  · exact ⟨by kernel_rfl, (congrFun (congrFun (rp207 C k) _) h).trans e⟩
  · cases e⟩
theorem ip218 : IP 218 = some ir218 := rfl
def rQ218 (C : Nat → List V → H → Rr) (k : Nat) : X → E → H → Rr := Qrr rs218
def rS218_4 (C : Nat → List V → H → Rr) (k : Nat) : E → H → Rr := ((Qxr (dn C k .ret (rQ218 C k)) (rQ218 C k)) X.normal)
def rK218_4 (C : Nat → List V → H → Rr) (k : Nat) (x5 x7 : V) (h : H) : Rr := (rB (vPick x5 x7 (.b false)) fun v1 => (some (v1, h)))
def rJ218_4 (C : Nat → List V → H → Rr) (k : Nat) : E → H → Rr := fun e h => (rK218_4 C k (e 5) (e 7) h)
theorem rp218_4 (C : Nat → List V → H → Rr) (k : Nat) : dnOps C o218_1 (rS218_4 C k) = (rJ218_4 C k) := by
  refine Eq.trans (rapp_eq rfl rfl) ?_
  kernel_rfl
def rK218 (C : Nat → List V → H → Rr) (k : Nat) (x0 : V) (h : H) : Rr := (rB (bin .geq x0 (.i .i64 0)) fun v1 => (rG v1 true (rB (bin .lss x0 (.i .i64 6)) fun v2 => (rK218_4 C k v1 v2 h)) (rK218_4 C k v1 undefV h)))
theorem rp218 (C : Nat → List V → H → Rr) (k : Nat) : dn C k c218 (rQ218 C k) = fun e h => (rK218 C k (e 0) h) := by
  refine Eq.trans (rseq_eq (rseq_eq rfl (rregion_eq (rapp_eq (rgrp_eq2 5 true rfl (rp218_4 C k) rfl) rfl))) rfl) ?_
  kernel_rfl
def F218 : RF := fun C k a h => match a with
  | [a0] => rK218 C k a0 h
  | _ => none
theorem ro218 : RunOK IP 218 F218 := ⟨ir218, ip218, by kernel_rfl, fun C k a h r e => by
  unfold F218 at e
  split at e
  · exact ⟨by kernel_rfl, (congrFun (congrFun (rp218 C k) _) h).trans e⟩
  · cases e⟩
theorem ip219 : IP 219 = some ir219 := rfl
def rQ219 (C : Nat → List V → H → Rr) (k : Nat) : X → E → H → Rr := Qrr rs219
def rS219_4 (C : Nat → List V → H → Rr) (k : Nat) : E → H → Rr := ((Qxr (dn C k .ret (rQ219 C k)) (rQ219 C k)) X.normal)
def rK219_4 (C : Nat → List V → H → Rr) (k : Nat) (x5 x15 : V) (h : H) : Rr := (rB (vPick x5 x15 (.b false)) fun v1 => (some (v1, h)))
def rJ219_4 (C : Nat → List V → H → Rr) (k : Nat) : E → H → Rr := fun e h => (rK219_4 C k (e 5) (e 15) h)
theorem rp219_4 (C : Nat → List V → H → Rr) (k : Nat) : dnOps C o219_1 (rS219_4 C k) = (rJ219_4 C k) := by
  refine Eq.trans (rapp_eq rfl rfl) ?_
  kernel_rfl
def rK219 (C : Nat → List V → H → Rr) (k : Nat) (x0 : V) (h : H) : Rr := (rB (vEqz true .p x0 (.p none)) fun v1 => (rG v1 true (rB (vNilc x0) fun v2 => (rB (vFa 1 v2) fun v3 => (rB (vLd1 h v3) fun v4 => (rB (vLens v4) fun v5 => (rB (vNilc x0) fun v6 => (rB (vFa 0 v6) fun v7 => (rB (vLd1 h v7) fun v8 => (rB (bin .lss v5 v8) fun v9 => (rK219_4 C k v1 v9 h))))))))) (rK219_4 C k v1 undefV h)))
theorem rp219 (C : Nat → List V → H → Rr) (k : Nat) : dn C k c219 (rQ219 C k) = fun e h => (rK219 C k (e 0) h) := by
  refine Eq.trans (rseq_eq (rseq_eq rfl (rdraw0_eq (rapp_eq (rgrp_eq2 5 true rfl (rp219_4 C k) rfl) rfl))) rfl) ?_
  kernel_rfl
def F219 : RF := fun C k a h => match a with
  | [a0] => rK219 C k a0 h
  | _ => none
theorem ro219 : RunOK IP 219 F219 := ⟨ir219, ip219, by kernel_rfl, fun C k a h r e => by
  unfold F219 at e
  split at e
  · exact ⟨by kernel_rfl, (congrFun (congrFun (rp219 C k) _) h).trans e⟩
  · cases e⟩
theorem ip220 : IP 220 = some ir220 := rfl
def rQ220 (C : Nat → List V → H → Rr) (k : Nat) : X → E → H → Rr := Qrr rs220
def rQ220_1 (C : Nat → List V → H → Rr) (k : Nat) : X → E → H → Rr := (rQ220 C k)
def rK220_1 (C : Nat → List V → H → Rr) (k : Nat) (x0 x1 : V) (h : H) : Rr := (rB (vNilc x0) fun v1 => (rB (vFa 2 v1) fun v2 => (rB (vLd1 h v2) fun v3 => (rB (bin .add v3 (.i .i64 1)) fun v4 => (rB (vNilc x0) fun v5 => (rB (vFa 2 v5) fun v6 => (rB (vStore h 1 v6 v4) fun r7 => (rB (vNilc x0) fun v8 => (rB (vFa 3 v8) fun v9 => (rB (vIaa 1 4 v9 x1) fun v10 => (rB (vLd1 r7.2 v10) fun v11 => (rB (bin .add v11 (.i .i64 1)) fun v12 => (rB (vNilc x0) fun v13 => (rB (vFa 3 v13) fun v14 => (rB (vIaa 1 4 v14 x1) fun v15 => (rB (vStore r7.2 1 v15 v12) fun r16 => (some ((.b true), r16.2))))))))))))))))))
def rJ220_1 (C : Nat → List V → H → Rr) (k : Nat) : E → H → Rr := fun e h => (rK220_1 C k (e 0) (e 1) h)
theorem rp220_1 (C : Nat → List V → H → Rr) (k : Nat) : dn C k c220_1 (rQ220_1 C k) = (rJ220_1 C k) := by kernel_rfl
def rQ220_2 (C : Nat → List V → H → Rr) (k : Nat) : X → E → H → Rr := (Qxr (rJ220_1 C k) (rQ220 C k))
def rK220_2 (C : Nat → List V → H → Rr) (k : Nat) (x0 x1 x35 : V) (h : H) : Rr := (rS x35 (some ((.b false), h)) (rK220_1 C k x0 x1 h))
def rJ220_2 (C : Nat → List V → H → Rr) (k : Nat) : E → H → Rr := fun e h => (rK220_2 C k (e 0) (e 1) (e 35) h)
theorem rp220_2 (C : Nat → List V → H → Rr) (k : Nat) : dn C k c220_2 (rQ220_2 C k) = (rJ220_2 C k) := by kernel_rfl
def rS220_10 (C : Nat → List V → H → Rr) (k : Nat) : E → H → Rr := ((Qxr (rJ220_2 C k) (Qxr (rJ220_1 C k) (rQ220 C k))) X.normal)
def rK220_10 (C : Nat → List V → H → Rr) (k : Nat) (x0 x1 x23 x34 : V) (h : H) : Rr := (rB (vPick x23 (.b true) x34) fun v1 => (rK220_2 C k x0 x1 v1 h))
def rJ220_10 (C : Nat → List V → H → Rr) (k : Nat) : E → H → Rr := fun e h => (rK220_10 C k (e 0) (e 1) (e 23) (e 34) h)
theorem rp220_10 (C : Nat → List V → H → Rr) (k : Nat) : dnOps C o220_3 (rS220_10 C k) = (rJ220_10 C k) := by
  refine Eq.trans (rapp_eq rfl rfl) ?_
  kernel_rfl
def rS220_11 (C : Nat → List V → H → Rr) (k : Nat) : E → H → Rr := ((Qxr (rJ220_2 C k) (Qxr (rJ220_1 C k) (rQ220 C k))) X.normal)
def rK220_11 (C : Nat → List V → H → Rr) (k : Nat) (x0 x1 x12 x21 : V) (h : H) : Rr := (rB (vPick x12 (.b true) x21) fun v1 => (rG v1 false (rB (vNilc x0) fun v2 => (rB (vFa 3 v2) fun v3 => (rB (vIaa 1 4 v3 x1) fun v4 => (rB (vLd1 h v4) fun v5 => (rB (vNilc x0) fun v6 => (rB (vFa 1 v6) fun v7 => (rB (vLd1 h v7) fun v8 => (rB (bin .geq v5 v8) fun v9 => (rK220_10 C k x0 x1 v1 v9 h))))))))) (rK220_10 C k x0 x1 v1 undefV h)))
def rJ220_11 (C : Nat → List V → H → Rr) (k : Nat) : E → H → Rr := fun e h => (rK220_11 C k (e 0) (e 1) (e 12) (e 21) h)
theorem rp220_11 (C : Nat → List V → H → Rr) (k : Nat) : dnOps C o220_5 (rS220_11 C k) = (rJ220_11 C k) := by
  refine Eq.trans (rapp_eq (rgrp_eq2 23 false rfl (rp220_10 C k) rfl) rfl) ?_
  kernel_rfl
def rS220_12 (C : Nat → List V → H → Rr) (k : Nat) : E → H → Rr := ((Qxr (rJ220_2 C k) (Qxr (rJ220_1 C k) (rQ220 C k))) X.normal)
def rK220_12 (C : Nat → List V → H → Rr) (k : Nat) (x0 x1 x7 x10 : V) (h : H) : Rr := (rB (vPick x7 (.b true) x10) fun v1 => (rG v1 false (rB (vNilc x0) fun v2 => (rB (vFa 2 v2) fun v3 => (rB (vLd1 h v3) fun v4 => (rB (vNilc x0) fun v5 => (rB (vFa 0 v5) fun v6 => (rB (vLd1 h v6) fun v7 => (rB (bin .geq v4 v7) fun v8 => (rK220_11 C k x0 x1 v1 v8 h)))))))) (rK220_11 C k x0 x1 v1 undefV h)))
def rJ220_12 (C : Nat → List V → H → Rr) (k : Nat) : E → H → Rr := fun e h => (rK220_12 C k (e 0) (e 1) (e 7) (e 10) h)
theorem rp220_12 (C : Nat → List V → H → Rr) (k : Nat) : dnOps C o220_7 (rS220_12 C k) = (rJ220_12 C k) := by
  refine Eq.trans (rapp_eq (rgrp_eq2 12 false rfl (rp220_11 C k) rfl) rfl) ?_
  kernel_rfl
def rK220 (C : Nat → List V → H → Rr) (k : Nat) (x0 x1 : V) (h : H) : Rr := (rB (vEqz false .p x0 (.p none)) fun v1 => (rG v1 false (rK (C 228 [x1] h) fun v2 h3 => (rB (un .not v2) fun v4 => (rK220_12 C k x0 x1 v1 v4 h3))) (rK220_12 C k x0 x1 v1 undefV h)))
theorem rp220 (C : Nat → List V → H → Rr) (k : Nat) : dn C k c220 (rQ220 C k) = fun e h => (rK220 C k (e 0) (e 1) h) := by
  refine Eq.trans (rseq_eq (rseq_eq (rp220_1 C k) (rseq_eq (rp220_2 C k) (rdraw0_eq (rapp_eq (rgrp_eq2 7 false rfl (rp220_12 C k) rfl) rfl)))) rfl) ?_
  kernel_rfl
def F220 : RF := fun C k a h => match a with
  | [a0, a1] => rK220 C k a0 a1 h
  | _ => none
theorem ro220 : RunOK IP 220 F220 := ⟨ir220, ip220, by kernel_rfl, fun C k a h r e => by
  unfold F220 at e
  split at e
  · exact ⟨by kernel_rfl, (congrFun (congrFun (rp220 C k) _) h).trans e⟩
  · cases e⟩
theorem ip221 : IP 221 = some ir221 := rfl
def rQ221 (C : Nat → List V → H → Rr) (k : Nat) : X → E → H → Rr := Qrr rs221
def rQ221_1 (C : Nat → List V → H → Rr) (k : Nat) : X → E → H → Rr := (rQ221 C k)
def rK221_1 (C : Nat → List V → H → Rr) (k : Nat) (x4 x5 : V) (h : H) : Rr := (some ((.tup [x4, x5]), h))
def rJ221_1 (C : Nat → List V → H → Rr) (k : Nat) : E → H → Rr := fun e h => (rK221_1 C k (e 4) (e 5) h)
theorem rp221_1 (C : Nat → List V → H → Rr) (k : Nat) : dn C k c221_1 (rQ221_1 C k) = (rJ221_1 C k) := by kernel_rfl
def rK221 (C : Nat → List V → H → Rr) (k : Nat) (x0 : V) (h : H) : Rr := (rB (vEqz false .p x0 (.p none)) fun v1 => (rS v1 (some ((.tup [(.i .i64 0), (.b false)]), h)) (rB (vNilc x0) fun v2 => (rB (vFa 3 v2) fun v3 => (rB (vLd1 h v3) fun v4 => (rK (C 248 [v4] h) fun v5 h6 => (rB (vExt v5 0) fun v7 => (rB (vExt v5 1) fun v8 => (rS v8 (rB (vNilc x0) fun v9 => (rB (vFa 4 v9) fun v10 => (rB (vIaa 1 16 v10 v7) fun v11 => (rB (vStore h6 1 v11 (.b true)) fun r12 => (rK221_1 C k v7 v8 r12.2))))) (rK221_1 C k v7 v8 h6))))))))))
theorem rp221 (C : Nat → List V → H → Rr) (k : Nat) : dn C k c221 (rQ221 C k) = fun e h => (rK221 C k (e 0) h) := by
  refine Eq.trans (rseq_eq (rseq_eq (rseq_eq (rseq_eq (rp221_1 C k) rfl) rfl) rfl) rfl) ?_
  kernel_rfl
def F221 : RF := fun C k a h => match a with
  | [a0] => rK221 C k a0 h
  | _ => none
theorem ro221 : RunOK IP 221 F221 := ⟨ir221, ip221, by kernel_rfl, fun C k a h r e => by
  unfold F221 at e
  split at e
  · exact ⟨by kernel_rfl, (congrFun (congrFun (rp221 C k) _) h).trans e⟩
  · cases e⟩
end Go.Proofs.YtbbencnhecokiaaGreatDoor.IrClientNone
