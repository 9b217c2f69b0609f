import Derived.Test.YthackiallbgeaaaGreatDoorSxG
namespace Sx
noncomputable section
open Go Mx
def idxL (k : Nat) (g : S → S → S → S → SH → Tree) (x0 x1 x7 x8 : S) (h : SH) : Tree := (kI k .lss x8 x7 h fun v2 h3 => (kS v2 (fun h4 => (kB k (fun h16 => sIa 1 x0 x8 (SH.pc h16)) (fun v17 h18 => (kL k v17 h18 fun v20 h21 => (kI k .eql x1 v20 h21 fun v23 h24 => (kS v23 (fun h25 => (Tree.leaf x8 h25)) (fun h26 => (kI k .add x8 (l64 1) h26 fun v32 h33 => (g x0 x1 x7 v32 h33))) h24)))) h4)) (fun h5 => (Tree.leaf (S.i .i64 (.lit (-1))) h5)) h3))
def idxB (k : Nat) (g : S × S × S × S × Unit → SH → Tree) (x : S × S × S × S × Unit) (h : SH) : Tree := idxL k (fun y0 y1 y7 y8 h => g (y0, y1, y7, y8, ()) h) x.1 x.2.1 x.2.2.1 x.2.2.2.1 h
def idxT (k : Nat) (x0 x1 : S) (h : SH) : Tree := kB k (fun _ => sLens x0) (fun v6 h7 => kFix k (idxB k) (x0, x1, v6, l64 0, ()) h7) h
def isv (v : Int) (x : S) : Option Bool := match x with
  | .i k a => match a with
    | .lit m => match Nat.beq (kn k) 3 with
      | true => some (ieq v m)
      | false => none
    | _ => none
  | _ => none
def fidx (N : Nat) (v : Int) (l : List S) : Nat → Option Int :=
  List.rec (motive := fun _ => Nat → Option Int) (fun n => match Nat.beq n 0 with
    | true => some (-1)
    | false => none)
    (fun x _ ih n => match Nat.beq n 0 with
      | true => some (-1)
      | false => match isv v x with
        | some b => (match b with
          | true => some (.ofNat (Nat.sub N n))
          | false => ih (Nat.sub n 1))
        | none => none) l
def fast (k : Nat) (a : List S) (h : SH) : Option Tree := match a with
  | [.sl id off n _, .i kk (.lit v)] => match Nat.beq (kn kk) 3 && Nat.ble (Nat.succ n) k && Nat.ble n 1000000 with
    | true => match h.get id with
      | some o => match fidx n v (dropD o.c off) n with
        | some r => some (.leaf (.i .i64 (.lit r)) h)
        | none => none
      | none => none
    | false => none
  | _ => none
def sfI (old : SF) : SF := fun C k a h => match fast k a h with
  | some t => t
  | none => old C k a h
theorem kB_of {α : Type} {k : Nat} {o : SH → Res α} {K : α → SH → Tree} {h : SH} {a : α} (e : o h = .ok a) : kB k o K h = K a h := by
  simp only [kB, e]
theorem kn3 {k : IntKind} (h : Nat.beq (kn k) 3 = true) : k = .i64 := by
  cases k <;> simp [kn] at h <;> rfl
theorem loop_ok {k id off n : Nat} {c : Cap} {v : Int} {h : SH} {o : SO} (hg : h.get id = some o) (hn : n ≤ 1000000) : ∀ (m i K : Nat) (r : Int), i + m = n → m < K → fidx n v (o.c.drop (off + i)) m = some r →
    kFix K (idxB k) (.sl id off n c, .i .i64 (.lit v), .i .i64 (.lit (.ofNat n)), .i .i64 (.lit (.ofNat i)), ()) h = .leaf (.i .i64 (.lit r)) h
  | 0, i, K, r, h1, h2, h3 => by
    obtain ⟨K, rfl⟩ : ∃ K', K = K' + 1 := ⟨K - 1, by omega⟩
    have hr : r = -1 := by
      revert h3
      cases o.c.drop (off + i) with
      | nil => intro h3; cases h3; rfl
      | cons x l => intro h3; cases h3; rfl
    subst hr
    have hi : i = n := by omega
    subst hi
    show idxB k _ _ h = _
    unfold idxB idxL kI
    rw [kB_of (show sBin .lss (.i .i64 (.lit (.ofNat i))) (.i .i64 (.lit (.ofNat i))) h.pc = .ok (.b (ilt (.ofNat i) (.ofNat i))) from rfl)]
    have : ilt (.ofNat i) (.ofNat i) = false := by simp [ilt, ile]
    rw [this]
    rfl
  | m + 1, i, K, r, h1, h2, h3 => by
    obtain ⟨K, rfl⟩ : ∃ K', K = K' + 1 := ⟨K - 1, by omega⟩
    have hd : ∃ x l, o.c.drop (off + i) = x :: l := by
      cases e : o.c.drop (off + i) with
      | nil => rw [e] at h3; cases h3
      | cons x l => exact ⟨x, l, rfl⟩
    obtain ⟨x, l, e⟩ := hd
    have hx : o.c[off + i]? = some x := by
      have := List.getElem?_drop (xs := o.c) (i := off + i) (j := 0)
      rw [e] at this
      exact this.symm
    have hl : o.c.drop (off + (i + 1)) = l := by
      have := List.drop_drop (i := 1) (j := off + i) (l := o.c)
      rw [e] at this
      rw [← Nat.add_assoc, ← this]
      rfl
    rw [e] at h3
    have h3' : (match isv v x with
        | some b => (match b with
          | true => some (.ofNat (Nat.sub n (m + 1)))
          | false => fidx n v l (Nat.sub (m + 1) 1))
        | none => none) = some r := h3
    cases hv : isv v x with
    | none => rw [hv] at h3'; cases h3'
    | some b =>
      rw [hv] at h3'
      have hx2 : ∃ y, x = .i .i64 (.lit y) ∧ ieq v y = b := by
        revert hv
        unfold isv
        split
        · split
          · split
            · rename_i hk
              intro hv
              cases hv
              exact ⟨_, by rw [kn3 hk], rfl⟩
            · intro hv; cases hv
          · intro hv; cases hv
        · intro hv; cases hv
      obtain ⟨y, rfl, hy⟩ := hx2
      show idxB k _ _ h = _
      unfold idxB idxL kI
      rw [kB_of (show sBin .lss (.i .i64 (.lit (.ofNat i))) (.i .i64 (.lit (.ofNat n))) h.pc = .ok (.b (ilt (.ofNat i) (.ofNat n))) from rfl)]
      have hlt : ilt (.ofNat i) (.ofNat n) = true := ilt_eq.2 (by show (i : Int) < n; omega)
      rw [hlt]
      show kB k (fun h16 => sIa 1 (.sl id off n c) (.i .i64 (.lit (.ofNat i))) h16.pc) _ h = _
      have hia : sIa 1 (.sl id off n c) (.i .i64 (.lit (.ofNat i))) h.pc = .ok (.p (some (id, off + i))) := by
        show (match Nat.blt i n with
          | true => Res.ok (S.p (some (id, Nat.add off (Nat.mul i 1))))
          | false => Res.no) = _
        have : Nat.blt i n = true := by simp [Nat.blt_eq]; omega
        rw [this]
        show Res.ok (S.p (some (id, off + i * 1))) = _
        rw [Nat.mul_one]
      rw [kB_of hia]
      have hld : sLd1 (.p (some (id, off + i))) h = .ok (.i .i64 (.lit y)) := by
        show oR (h.at id (off + i)) = _
        unfold SH.at
        rw [hg]
        show oR (nth o.c (off + i)) = _
        rw [nth_eq, hx]
        rfl
      unfold kL
      rw [kB_of hld, kB_of (show sBin .eql (.i .i64 (.lit v)) (.i .i64 (.lit y)) h.pc = .ok (.b (ieq v y)) from rfl), hy]
      cases b with
      | true =>
        have : r = .ofNat i := by
          have := Option.some.inj h3'
          rw [← this]
          show Int.ofNat (n - (m + 1)) = _
          congr 1
          omega
        rw [this]
        rfl
      | false =>
        show kB k (fun h => sBin .add (.i .i64 (.lit (.ofNat i))) (l64 1) h.pc) (fun v32 h33 => kFix K (idxB k) (.sl id off n c, .i .i64 (.lit v), .i .i64 (.lit (.ofNat n)), v32, ()) h33) h = _
        have had : sBin .add (.i .i64 (.lit (.ofNat i))) (l64 1) h.pc = .ok (.i .i64 (.lit (.ofNat (i + 1)))) := by
          show Res.ok (S.i .i64 (.lit (addF .i64 (.ofNat i) 1))) = _
          have : addF .i64 (.ofNat i) 1 = .ofNat (i + 1) := by
            show wrapF .i64 (.ofNat (i + 1)) = _
            unfold wrapF
            have : Nat.ble (i + 1) (kmaxN .i64) = true := by rw [Nat.ble_eq]; show i + 1 ≤ 9223372036854775807; omega
            simp only [this]
          rw [this]
        rw [kB_of had]
        exact loop_ok hg hn m (i + 1) K r (by omega) (by omega) (by rw [hl]; exact h3')
theorem fast_ok {k : Nat} {a : List S} {h : SH} {t : Tree} (e : fast k a h = some t) : ∃ x0 x1, a = [x0, x1] ∧ t = idxT k x0 x1 h := by
  unfold fast at e
  split at e
  · split at e
    · rename_i hc
      simp only [Bool.and_eq_true, Nat.ble_eq] at hc
      obtain ⟨⟨hk, hc1⟩, hc2⟩ := hc
      split at e
      · rename_i o ho
        split at e
        · rename_i r hr
          cases e
          refine ⟨_, _, rfl, ?_⟩
          have hk' := kn3 hk
          subst hk'
          rw [dropD_eq] at hr
          unfold idxT
          rw [kB_of (show sLens _ = .ok _ from rfl)]
          exact (loop_ok ho hc2 _ 0 k r (by omega) (by omega) hr).symm
        · cases e
      · cases e
    · cases e
  · cases e
theorem sokI {IP : Nat → Option IFn} {f : Nat} {K : CT → Nat → S → S → SH → Tree} (so : SOK IP f (sf2 K)) (hK : ∀ C k x0 x1 h, K C k x0 x1 h = idxT k x0 x1 h) : SOK IP f (sfI (sf2 K)) := by
  obtain ⟨fn, h1, h2, h3⟩ := so
  refine ⟨fn, h1, h2, fun C k a h => ?_⟩
  have key : sfI (sf2 K) C k a h = sf2 K C k a h := by
    unfold sfI
    split
    · rename_i t ht
      obtain ⟨x0, x1, rfl, rfl⟩ := fast_ok ht
      exact (hK C k x0 x1 h).symm
    · rfl
  rw [key]
  exact h3 C k a h
end
end Sx
