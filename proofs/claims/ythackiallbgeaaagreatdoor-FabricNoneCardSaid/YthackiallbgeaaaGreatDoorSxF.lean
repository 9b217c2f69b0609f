import Derived.Test.YthackiallbgeaaaGreatDoorSxE
namespace Sx
noncomputable section
set_option linter.unusedSimpArgs false
open Go Mx
inductive Tree where
  | leaf (v : S) (h : SH)
  | no
  | fork (a : At) (l r : Tree)
def Tree.sel (σ : Nat → Int) : Tree → Option (S × SH)
  | .leaf v h => some (v, h)
  | .no => none
  | .fork a l r => match a.ev σ with
    | true => l.sel σ
    | false => r.sel σ
def Ok (σ : Nat → Int) (t : Tree) (r : Rr) : Prop := ∀ v h, t.sel σ = some (v, h) → Sat σ h.pc ∧ r = some (den σ v, denH σ h)
def kBn {α : Type} (o : SH → Res α) (k : α → SH → Tree) : Nat → SH → Tree
  | 0, _ => .no
  | n + 1, h => match o h with
    | .ok a => k a h
    | .no => .no
    | .ask a => .fork a (kBn o k n (h.know a true)) (kBn o k n (h.know a false))
def kB {α : Type} (n : Nat) (o : SH → Res α) (k : α → SH → Tree) (h : SH) : Tree := match o h with
  | .ok a => k a h
  | .no => .no
  | .ask a => .fork a (kBn o k n (h.know a true)) (kBn o k n (h.know a false))
def kL (k : Nat) (x : S) (h : SH) (K : S → SH → Tree) : Tree := kB k (fun h => sLd1 x h) K h
def kA (k n : Nat) (x : S) (h : SH) (K : S → SH → Tree) : Tree := kB k (fun h => sLdA n x h) K h
def kF (k n : Nat) (x : S) (h : SH) (K : S → SH → Tree) : Tree := kB k (fun _ => sFa n x) K h
def kN (k : Nat) (x : S) (h : SH) (K : S → SH → Tree) : Tree := kB k (fun _ => sNilc x) K h
def kX (k : Nat) (x : S) (n : Nat) (h : SH) (K : S → SH → Tree) : Tree := kB k (fun _ => sExt x n) K h
def kI (k : Nat) (o : BinOp) (x y : S) (h : SH) (K : S → SH → Tree) : Tree := kB k (fun h => sBin o x y h.pc) K h
def kT (k n : Nat) (x y : S) (h : SH) (K : S × SH → SH → Tree) : Tree := kB k (fun h => sStore n x y h) K h
def gd {α : Type} (v : S) (w : Bool) (u : SH → α) (o : SH → Res α) (h : SH) : Res α := match v with
  | .b x => if x == w then o h else .ok (u h)
  | .q a n => match dec h.pc a with
    | some r => if (xor r n) == w then o h else .ok (u h)
    | none => .ask a
  | _ => .ok (u h)
def uS (_ : SH) : S := undefS
def uR (h : SH) : S × SH := (undefS, h)
def kK (t : Tree) (k : S → SH → Tree) : Tree := match t with
  | .leaf v h => k v h
  | .no => .no
  | .fork a l r => .fork a (kK l k) (kK r k)
def kV (C : Nat → List S → SH → Tree) (x : S) (a : List S) (h : SH) : Tree := match x with
  | .fn f caps => C f (a ++ caps) h
  | _ => .no
def kS (v : S) (a b : SH → Tree) (h : SH) : Tree := match v with
  | .b x => (match x with
    | true => a h
    | false => b h)
  | .q t n => match dec h.pc t with
    | some r => (match xor r n with
      | true => a h
      | false => b h)
    | none => match n with
      | false => .fork t (a (h.know t true)) (b (h.know t false))
      | true => .fork t (b (h.know t true)) (a (h.know t false))
  | _ => .no
def kG0 (v : S) (w : Bool) (a : SH → Tree) (h : SH) : Tree := kK (kS v (fun h => .leaf (.b true) h) (fun h => .leaf (.b false) h) h) fun v h => match v with
  | .b x => if x == w then a h else .leaf undefS h
  | _ => .no
def isB : S → Bool
  | .b _ => true
  | .q _ _ => true
  | _ => false
def kG (v : S) (w : Bool) (a : SH → Tree) (h : SH) : Tree := match isB v with
  | true => kG0 v w a h
  | false => .leaf undefS h
def kC (c : Bool) (a : Tree) : Tree := match c with
  | true => a
  | false => .no
def kFix {A : Type} : Nat → ((A → SH → Tree) → A → SH → Tree) → A → SH → Tree
  | 0, _ => fun _ _ => .no
  | k + 1, F => F (kFix k F)
abbrev ES := Nat → S
abbrev CT := Nat → List S → SH → Tree
abbrev QT := X → ES → SH → Tree
def updS (e : ES) (n : Nat) (v : S) : ES := fun k => bif Nat.beq k n then v else e k
def updOS (e : ES) (d : Option Nat) (v : S) : ES := match d with
  | some d => updS e d v
  | none => e
def oES (e : ES) : Opd → S
  | .t n => e n
  | .c v => ofV v
  | .f n => .fn n []
  | .g n => .p (some (n, 0))
def oOS (e : ES) (o : Option Opd) : Option S := match o with
  | some x => some (oES e x)
  | none => none
def oLS (e : ES) : List Opd → List S
  | [] => []
  | x :: l => oES e x :: oLS e l
def oPS (e : ES) : List (Nat × Nat × Opd) → List (Nat × Nat × S)
  | [] => []
  | p :: l => (p.1, p.2.1, oES e p.2.2) :: oPS e l
def pureS (e : ES) (pc : PC) : PO → Res S
  | .mov x => .ok (oES e x)
  | .pick c a b => sPick (oES e c) (oES e a) (oES e b) pc
  | .bin o x y => sBin o (oES e x) (oES e y) pc
  | .eqz neg k x y => sEqz neg k (oES e x) (oES e y) pc
  | .eqa neg ks x y => sEqa neg ks (oES e x) (oES e y) pc
  | .un o x => sUn o (oES e x) pc
  | .cvi k x => sCvi k (oES e x) pc
  | .fa off x => sFa off (oES e x)
  | .nilc x => sNilc (oES e x)
  | .fld agg off n x => sFld agg off n (oES e x)
  | .ixa agg n len x i => sIxa agg n len (oES e x) (oES e i) pc
  | .ixs x i => via2 vIxs (oES e x) (oES e i) pc
  | .ia esz x i => sIa esz (oES e x) (oES e i) pc
  | .iaa esz len x i => sIaa esz len (oES e x) (oES e i) pc
  | .sls esz x lo hi mx => sSls esz (oES e x) (oOS e lo) (oOS e hi) (oOS e mx) pc
  | .sla esz len x lo hi mx => sSla esz len (oES e x) (oOS e lo) (oOS e hi) (oOS e mx) pc
  | .slt x lo hi => sSlt (oES e x) (oOS e lo) (oOS e hi) pc
  | .mkf f caps => .ok (.fn f (oLS e caps))
  | .ext x i => sExt (oES e x) i
  | .bld z parts => sBld z (oPS e parts)
  | .lens x => sLens (oES e x)
  | .capn x => via1 vCaps (oES e x) pc
  | .lent x => via1 vLent (oES e x) pc
  | .min x xs => sMin (oES e x) (oLS e xs) pc
  | .max x xs => sMax (oES e x) (oLS e xs) pc
def allocS (e : ES) (h : SH) : AO → SR
  | .box x => sBox (oES e x) h
  | .zero z => sZero z h
  | .sl len cells parts => sNewSl len cells (oPS e parts) h
  | .mks bytes z len => sMake bytes z (oES e len) h
def effS (e : ES) (h : SH) : EO → SR
  | .store n a x => sStore n (oES e a) (oES e x) h
  | .call _ _ => .no
  | .callv _ _ => .no
  | .app esz bytes s x => sApp esz bytes (oES e s) (oES e x) h
  | .appz esz bytes z s n => sAppz esz bytes z (oES e s) (oES e n) h
  | .clear z x => sClear z (oES e x) h
  | .copy esz d x => sCopy esz (oES e d) (oES e x) h
  | .btos x => sBtos (oES e x) h
  | .stob x => sStob (oES e x) h
mutual
def S.same : S → S → Bool
  | .i k u, .i k' v => k == k' && SX.beq u v
  | .b u, .b v => u == v
  | .q u n, .q v m => At.beq u v && n == m
  | .s u, .s v => u.data == v.data
  | .p u, .p v => u == v
  | .sl x y z c, .sl x' y' z' c' => x == x' && y == y' && z == z' && c == c'
  | .nsl, .nsl => true
  | .es u, .es v => u == v
  | .so x y z, .so x' y' z' => x == x' && y == y' && z == z'
  | .fn u l, .fn v r => u == v && S.sames l r
  | .nfn, .nfn => true
  | .agg l, .agg r => S.sames l r
  | .tup l, .tup r => S.sames l r
  | _, _ => false
def S.sames : List S → List S → Bool
  | [], [] => true
  | x :: l, y :: r => S.same x y && S.sames l r
  | _, _ => false
end
def stdyS (agg : Bool) (n : Nat) (a : S) (h h' : SH) : Bool := match a with
  | .p (some (id, off)) =>
    if h.nx ≤ id then true else
    match h.load id off (if agg then n else 1), h'.load id off (if agg then n else 1) with
    | some x, some y => S.sames x y
    | _, _ => false
  | _ => false
def stdyGS (g : S) (w : Bool) (b : Bool) : Bool := match g with
  | .b x => if x == w then b else true
  | .q _ _ => b
  | _ => true
def eh0S : ES × SH := (fun _ => undefS, ⟨0, .l, []⟩)
def stAtS (st : List (ES × SH)) (N i : Nat) : ES × SH := st.getD (N - i) eh0S
def stdyES (ops : List IOp) (st : List (ES × SH)) (N l e : Nat) : Bool :=
  match ops[l]? with
  | some o => match o.op with
    | .ld agg n a => match o.guard with
      | none => stdyS agg n (oES (stAtS st N l).1 a) (stAtS st N e).2 (stAtS st N (e + 1)).2
      | some g => stdyGS ((stAtS st N l).1 g.1) g.2 (stdyS agg n (oES (stAtS st N l).1 a) (stAtS st N e).2 (stAtS st N (e + 1)).2)
    | _ => false
  | none => false
section
variable (C : Nat → List S → SH → Tree) (k : Nat)
def dsOp (d : Option Nat) (op : Mx.Op) (g : Option (Nat × Bool)) (K : ES → SH → Tree) (e : ES) (h : SH) : Tree :=
  match op with
  | .pu o => match g with
    | none => match o with
      | .mov x => K (updOS e d (oES e x)) h
      | o => kB k (fun h => pureS e h.pc o) (fun v h => K (updOS e d v) h) h
    | some g => kB k (gd (e g.1) g.2 uS fun h => pureS e h.pc o) (fun v h => K (updOS e d v) h) h
  | .al o => match g with
    | none => kB k (fun h => allocS e h o) (fun r _ => K (updOS e d r.1) r.2) h
    | some g => kB k (gd (e g.1) g.2 uR fun h => allocS e h o) (fun r _ => K (updOS e d r.1) r.2) h
  | .ld agg n a => match g with
    | none => kB k (fun h => sLd agg n (oES e a) h) (fun v h => K (updOS e d v) h) h
    | some g => kB k (gd (e g.1) g.2 uS fun h => sLd agg n (oES e a) h) (fun v h => K (updOS e d v) h) h
  | .ef o => match o with
    | .call f args => match g with
      | none => kK (C f (oLS e args) h) fun v h' => K (updOS e d v) h'
      | some g => kK (kG (e g.1) g.2 (fun h => C f (oLS e args) h) h) fun v h' => K (updOS e d v) h'
    | .callv x args => match g with
      | none => kK (kV C (oES e x) (oLS e args) h) fun v h' => K (updOS e d v) h'
      | some g => kK (kG (e g.1) g.2 (fun h => kV C (oES e x) (oLS e args) h) h) fun v h' => K (updOS e d v) h'
    | o => match g with
      | none => kB k (fun h => effS e h o) (fun r _ => K (updOS e d r.1) r.2) h
      | some g => kB k (gd (e g.1) g.2 uR fun h => effS e h o) (fun r _ => K (updOS e d r.1) r.2) h
def dsOps : List IOp → (ES → SH → Tree) → ES → SH → Tree
  | [], Q => Q
  | o :: l, Q => dsOp C k o.dst o.op o.guard (dsOps l Q)
def dsT : List IOp → (List (ES × SH) → ES → SH → Tree) → List (ES × SH) → ES → SH → Tree
  | [], Q, st => Q st
  | o :: l, Q, st => fun e h => dsOp C k o.dst o.op o.guard (dsT l Q ((e, h) :: st)) e h
def kChk (ops : List IOp) (st : List (ES × SH)) (N : Nat) : List (Nat × Nat) → Tree → Tree
  | [], Q => Q
  | p :: ps, Q => kC (stdyES ops st N p.1 p.2) (kChk ops st N ps Q)
def QxS (g : ES → SH → Tree) (Q : X → ES → SH → Tree) (x : X) : ES → SH → Tree :=
  let _ := (@dsOp, @kS, @kL, @kA, @kF, @kN, @kX, @kI, @kT)
  match x with
  | .normal => g
  | x => Q x
def QbS (id : Nat) (Q : X → ES → SH → Tree) (x : X) : ES → SH → Tree :=
  let _ := (@dsOp, @kS, @kL, @kA, @kF, @kN, @kX, @kI, @kT)
  match x with
  | .exit i => bif Nat.beq i id then Q .normal else Q (.exit i)
  | x => Q x
def ds : IC → (X → ES → SH → Tree) → ES → SH → Tree
  | .skip, Q => Q .normal
  | .region ops, Q => dsOps C k ops (Q .normal)
  | .draw ops ps, Q => match ps with
    | [] => dsOps C k ops (Q .normal)
    | p :: ps => dsT C k ops (fun st e h => kChk ops ((e, h) :: st) ops.length (p :: ps) (Q .normal e h)) []
  | .seq a b, Q => ds a (QxS (ds b Q) Q)
  | .cond c a b, Q => fun e h => kS (oES e c) (fun h => ds a Q e h) (fun h => ds b Q e h) h
  | .block id c, Q => ds c (QbS id Q)
  | .loop c, Q => kFix k fun g => ds c (QxS g Q)
  | .exit id, Q => Q (.exit id)
  | .ret, Q => Q .ret
def tupS : List S → S
  | [v] => v
  | vs => .tup vs
def dsRes : List RV → (List S → SH → Tree) → ES → SH → Tree
  | [], K, _, h => K [] h
  | r :: l, K, e, h => match r with
    | .t n => dsRes l (fun vs h => K (e n :: vs) h) e h
    | .c n agg sz => kB k (fun h => sLd agg sz (e n) h) (fun v h => dsRes l (fun vs h => K (v :: vs) h) e h) h
def QrS (rs : List RV) : X → ES → SH → Tree
  | .exit _ => fun _ _ => .no
  | _ => fun e h => dsRes k rs (fun vs h => .leaf (tupS vs) h) e h
end
section
variable {σ : Nat → Int}
theorem Ok_no (r : Rr) : Ok σ .no r := fun _ _ e => by cases e
theorem Ok_leaf {v : S} {h : SH} (hs : Sat σ h.pc) : Ok σ (.leaf v h) (some (den σ v, denH σ h)) := fun _ _ e => by cases e; exact ⟨hs, rfl⟩
theorem Ok_fork {a : At} {l r : Tree} {x : Rr} (hl : a.ev σ = true → Ok σ l x) (hr : a.ev σ = false → Ok σ r x) : Ok σ (.fork a l r) x := by
  intro v h e
  simp only [Tree.sel] at e
  cases ha : a.ev σ with
  | true => rw [ha] at e; exact hl ha v h e
  | false => rw [ha] at e; exact hr ha v h e
theorem Sat_know {h : SH} {a : At} {b : Bool} (hs : Sat σ h.pc) (e : a.ev σ = b) : Sat σ (h.know a b).pc := ⟨e, hs⟩
theorem kBn_ok {α β : Type} {o : SH → Res α} {k : α → SH → Tree} {o' : Option β} {k' : β → Rr} {H0 : H}
    (hk : ∀ h a, Sat σ h.pc → denH σ h = H0 → o h = .ok a → ∃ b, o' = some b ∧ Ok σ (k a h) (k' b)) : ∀ (n : Nat) (h : SH), Sat σ h.pc → denH σ h = H0 → Ok σ (kBn o k n h) (rB o' k')
  | 0, h, hs, hd => Ok_no _
  | n + 1, h, hs, hd => by
    simp only [kBn]
    cases ho : o h with
    | ok a =>
      obtain ⟨b, h1, h2⟩ := hk h a hs hd ho
      rw [h1]; exact h2
    | no => exact Ok_no _
    | ask a => exact Ok_fork (fun e => kBn_ok hk n _ (Sat_know hs e) hd) (fun e => kBn_ok hk n _ (Sat_know hs e) hd)
theorem kB_ok {α β : Type} {o : SH → Res α} {k : α → SH → Tree} {o' : Option β} {k' : β → Rr} {h : SH} {n : Nat} (hs : Sat σ h.pc)
    (hk : ∀ h1 a, Sat σ h1.pc → denH σ h1 = denH σ h → o h1 = .ok a → ∃ b, o' = some b ∧ Ok σ (k a h1) (k' b)) : Ok σ (kB n o k h) (rB o' k') :=
  kBn_ok hk (n + 1) h hs rfl
theorem kK_ok {k : S → SH → Tree} {k' : V → H → Rr} (hk : ∀ v h, Sat σ h.pc → Ok σ (k v h) (k' (den σ v) (denH σ h))) : ∀ {t : Tree} {r : Rr}, Ok σ t r → Ok σ (kK t k) (rK r k')
  | .leaf v h, r, ht => by
    obtain ⟨h1, h2⟩ := ht v h rfl
    rw [h2]; exact hk v h h1
  | .no, r, _ => Ok_no _
  | .fork a l r, x, ht => by
    refine Ok_fork (fun e => kK_ok hk (t := l) fun v h h1 => ht v h ?_) (fun e => kK_ok hk (t := r) fun v h h1 => ht v h ?_)
    · simp only [Tree.sel, e]; exact h1
    · simp only [Tree.sel, e]; exact h1
theorem kS_ok {v : S} {a b : SH → Tree} {A B : Rr} {h : SH} (hs : Sat σ h.pc) (ha : ∀ h1, Sat σ h1.pc → denH σ h1 = denH σ h → den σ v = .b true → Ok σ (a h1) A) (hb : ∀ h1, Sat σ h1.pc → denH σ h1 = denH σ h → den σ v = .b false → Ok σ (b h1) B) :
    Ok σ (kS v a b h) (rS (den σ v) A B) := by
  unfold kS
  split
  · rename_i x
    cases x with
    | true => exact ha h hs rfl rfl
    | false => exact hb h hs rfl rfl
  · rename_i t n
    split
    · rename_i r hr
      have e := dec_ok hs hr
      have hd : den σ (.q t n) = .b (xor r n) := by simp only [den, e]
      rw [hd] at ha hb ⊢
      cases hx : xor r n with
      | true => rw [hx] at ha; exact ha h hs rfl rfl
      | false => rw [hx] at hb; exact hb h hs rfl rfl
    · cases n with
      | false =>
        refine Ok_fork (fun e => ?_) (fun e => ?_)
        · have hd : den σ (.q t false) = .b true := by simp only [den, e]; rfl
          have := ha (h.know t true) (Sat_know hs e) rfl hd
          rw [hd]; exact this
        · have hd : den σ (.q t false) = .b false := by simp only [den, e]; rfl
          have := hb (h.know t false) (Sat_know hs e) rfl hd
          rw [hd]; exact this
      | true =>
        refine Ok_fork (fun e => ?_) (fun e => ?_)
        · have hd : den σ (.q t true) = .b false := by simp only [den, e]; rfl
          have := hb (h.know t true) (Sat_know hs e) rfl hd
          rw [hd]; exact this
        · have hd : den σ (.q t true) = .b true := by simp only [den, e]; rfl
          have := ha (h.know t false) (Sat_know hs e) rfl hd
          rw [hd]; exact this
  · exact Ok_no _
theorem gd_ok {α : Type} {v : S} {w : Bool} {u : SH → α} {o : SH → Res α} {h : SH} {x : α} (hs : Sat σ h.pc) (e : gd v w u o h = .ok x) :
    (den σ v = .b w ∧ o h = .ok x) ∨ (den σ v ≠ .b w ∧ x = u h) := by
  unfold gd at e
  split at e
  · rename_i y
    split at e
    · rename_i hy; exact .inl ⟨by rw [eq_of_beq hy]; rfl, e⟩
    · rename_i hy
      cases e
      exact .inr ⟨fun he => hy (by simp only [den, V.b.injEq] at he; simp [he]), rfl⟩
  · rename_i a n
    split at e
    · rename_i r hr
      have ev := dec_ok hs hr
      have hd : den σ (.q a n) = .b (xor r n) := by simp only [den, ev]
      split at e
      · rename_i hy; exact .inl ⟨by rw [hd, eq_of_beq hy], e⟩
      · rename_i hy
        cases e
        exact .inr ⟨fun he => hy (by rw [hd] at he; simp only [V.b.injEq] at he; simp [he]), rfl⟩
    · cases e
  · rename_i h1 h2
    cases e
    refine .inr ⟨fun he => ?_, rfl⟩
    cases v <;> simp only [den] at he <;> first | exact h1 _ rfl | exact h2 _ _ rfl | cases he
theorem rG_b {v : V} {w : Bool} {A B : Rr} (h : v = .b w) : rG v w A B = A := by subst h; exact rG_yes
theorem kG0_ok {v : S} {w : Bool} {a : SH → Tree} {A : Rr} {h : SH} (hs : Sat σ h.pc) (ha : ∀ h1, Sat σ h1.pc → denH σ h1 = denH σ h → Ok σ (a h1) A) {k : S → SH → Tree} {k' : V → H → Rr}
    (hk : ∀ v h, Sat σ h.pc → Ok σ (k v h) (k' (den σ v) (denH σ h))) : Ok σ (kK (kG0 v w a h) k) (rG (den σ v) w (rK A k') (k' undefV (denH σ h))) := by
  have hu : ∀ h1 : SH, denH σ h1 = denH σ h → Sat σ h1.pc → Ok σ (kK (.leaf undefS h1) k) (k' undefV (denH σ h)) := by
    intro h1 hd h1s
    have := hk undefS h1 h1s
    rw [hd] at this; exact this
  have key : ∀ (x : Bool), den σ v = .b x → ∀ h1 : SH, Sat σ h1.pc → denH σ h1 = denH σ h → Ok σ (kK (if x == w then a h1 else .leaf undefS h1) k) (rG (den σ v) w (rK A k') (k' undefV (denH σ h))) := by
    intro x hx h1 h1s hd
    by_cases hxw : x = w
    · subst hxw
      rw [rG_b hx, if_pos (by simp)]
      exact kK_ok hk (ha h1 h1s hd)
    · rw [rG_no (by rw [hx]; intro he; cases he; exact hxw rfl), if_neg (by simpa using hxw)]
      exact hu h1 hd h1s
  have asc : ∀ (t : Tree) (f : S → SH → Tree), kK (kK t f) k = kK t fun v h => kK (f v h) k := by
    intro t f
    induction t with
    | leaf v h => rfl
    | no => rfl
    | fork a l r il ir => simp only [kK, il, ir]
  unfold kG0
  rw [asc]
  unfold kS
  split
  · rename_i x
    cases x with
    | true => exact key true rfl h hs rfl
    | false => exact key false rfl h hs rfl
  · rename_i t n
    split
    · rename_i r hr
      have e := dec_ok hs hr
      have hd : den σ (.q t n) = .b (xor r n) := by simp only [den, e]
      cases hx : xor r n with
      | true => exact key true (by rw [hd, hx]) h hs rfl
      | false => exact key false (by rw [hd, hx]) h hs rfl
    · cases n with
      | false =>
        refine Ok_fork (fun e => ?_) (fun e => ?_)
        · exact key true (by simp only [den, e]; rfl) (h.know t true) (Sat_know hs e) rfl
        · exact key false (by simp only [den, e]; rfl) (h.know t false) (Sat_know hs e) rfl
      | true =>
        refine Ok_fork (fun e => ?_) (fun e => ?_)
        · exact key false (by simp only [den, e]; rfl) (h.know t true) (Sat_know hs e) rfl
        · exact key true (by simp only [den, e]; rfl) (h.know t false) (Sat_know hs e) rfl
  · exact Ok_no _
theorem isB_den {v : S} (h : isB v = false) (w : Bool) : den σ v ≠ .b w := by
  cases v <;> simp [isB] at h <;> simp [den]
theorem kG_ok {v : S} {w : Bool} {a : SH → Tree} {A : Rr} {h : SH} (hs : Sat σ h.pc) (ha : ∀ h1, Sat σ h1.pc → denH σ h1 = denH σ h → Ok σ (a h1) A) {k : S → SH → Tree} {k' : V → H → Rr}
    (hk : ∀ v h, Sat σ h.pc → Ok σ (k v h) (k' (den σ v) (denH σ h))) : Ok σ (kK (kG v w a h) k) (rG (den σ v) w (rK A k') (k' undefV (denH σ h))) := by
  unfold kG
  split
  · exact kG0_ok hs ha hk
  · rename_i hb
    rw [rG_no (isB_den hb w)]
    exact hk undefS h hs
def denE (σ : Nat → Int) (e : ES) : E := fun n => den σ (e n)
theorem denE_upd (e : ES) (d : Option Nat) (v : S) : denE σ (updOS e d v) = updO (denE σ e) d (den σ v) := by
  cases d with
  | none => rfl
  | some d =>
    funext k
    simp only [denE, updOS, updS, updO, upd]
    cases Nat.beq k d <;> rfl
theorem oE_den (e : ES) (x : Opd) : oE (denE σ e) x = den σ (oES e x) := by
  cases x with
  | c v => simp only [oE, oES, den_ofV]
  | _ => rfl
theorem oO_den (e : ES) (x : Option Opd) : oO (denE σ e) x = (oOS e x).map (den σ) := by
  cases x with
  | none => rfl
  | some x => simp only [oO, oOS, oE_den, Option.map_some]
theorem oL_den (e : ES) : ∀ l : List Opd, oL (denE σ e) l = dens σ (oLS e l)
  | [] => rfl
  | x :: l => by simp only [oL, oLS, dens, oE_den, oL_den e l]
theorem oP_den (e : ES) : ∀ l : List (Nat × Nat × Opd), oP (denE σ e) l = denP σ (oPS e l)
  | [] => rfl
  | x :: l => by simp only [oP, oPS, denP, oE_den, oP_den e l]
theorem pureS_ok {pc : PC} (hs : Sat σ pc) {e : ES} {o : PO} {s : S} (h : pureS e pc o = .ok s) : pureE (denE σ e) o = some (den σ s) := by
  cases o <;> simp only [pureS] at h <;> simp only [pureE, oE_den, oO_den, oL_den, oP_den]
  · cases h; rfl
  · exact sPick_ok hs h
  · exact sBin_ok hs h
  · exact sEqz_ok hs h
  · exact sEqa_ok hs h
  · exact sUn_ok hs h
  · exact sCvi_ok hs h
  · exact sFa_ok h
  · exact sNilc_ok h
  · exact sFld_ok h
  · exact sIxa_ok hs h
  · exact via2_ok hs h
  · exact sIa_ok hs h
  · exact sIaa_ok hs h
  · exact sSls_ok hs h
  · exact sSla_ok hs h
  · exact sSlt_ok hs h
  · cases h; rfl
  · exact sExt_ok h
  · exact sBld_ok h
  · exact sLens_ok h
  · exact via1_ok hs h
  · exact via1_ok hs h
  · exact sMin_ok hs h
  · exact sMax_ok hs h
theorem allocS_ok {e : ES} {o : AO} {h : SH} (hs : Sat σ h.pc) {r : S × SH} (hr : allocS e h o = .ok r) : HOk σ h r (allocE (denE σ e) (denH σ h) o) := by
  cases o <;> simp only [allocS] at hr <;> simp only [allocE, oE_den, oP_den]
  · exact sBox_ok hr
  · exact sZero_ok hr
  · exact sNewSl_ok hr
  · exact sMake_ok hs hr
theorem effS_ok {e : ES} {o : EO} {h : SH} (hs : Sat σ h.pc) {r : S × SH} (hr : effS e h o = .ok r) : HOk σ h r (effE (denE σ e) (denH σ h) o) := by
  cases o <;> simp only [effS] at hr <;> simp only [effE, oE_den] <;> try (cases hr; done)
  · exact sStore_ok hr
  · exact sApp_ok hr
  · exact sAppz_ok hs hr
  · exact sClear_ok hr
  · exact sCopy_ok hr
  · exact sBtos_ok hs hr
  · exact sStob_ok hr
mutual
theorem same_eq : ∀ {x y : S}, S.same x y = true → x = y
  | .i k u, y, h => by
    cases y <;> simp [S.same] at h
    rw [h.1, SX.beq_eq h.2]
  | .b u, y, h => by cases y <;> simp [S.same] at h; rw [h]
  | .q a n, y, h => by
    cases y <;> simp [S.same] at h
    rw [At.beq_eq h.1, h.2]
  | .s a, y, h => by
    cases y <;> simp [S.same] at h
    rename_i b
    cases a; cases b; simp at h; rw [h]
  | .p a, y, h => by cases y <;> simp [S.same] at h; rw [h]
  | .sl a b c d, y, h => by
    cases y <;> simp [S.same] at h
    obtain ⟨⟨⟨h1, h2⟩, h3⟩, h4⟩ := h
    rw [h1, h2, h3, h4]
  | .nsl, y, h => by cases y <;> simp [S.same] at h; rfl
  | .es a, y, h => by cases y <;> simp [S.same] at h; rw [h]
  | .so a b c, y, h => by
    cases y <;> simp [S.same] at h
    obtain ⟨⟨h1, h2⟩, h3⟩ := h
    rw [h1, h2, h3]
  | .fn f l, y, h => by
    cases y <;> simp [S.same] at h
    rw [h.1, sames_eq' h.2]
  | .nfn, y, h => by cases y <;> simp [S.same] at h; rfl
  | .agg l, y, h => by
    cases y <;> simp [S.same] at h
    rw [sames_eq' h]
  | .tup l, y, h => by
    cases y <;> simp [S.same] at h
    rw [sames_eq' h]
theorem sames_eq' : ∀ {x y : List S}, S.sames x y = true → x = y
  | [], [], _ => rfl
  | [], _ :: _, h => by simp [S.sames] at h
  | _ :: _, [], h => by simp [S.sames] at h
  | a :: l, b :: r, h => by
    simp only [S.sames, Bool.and_eq_true] at h
    rw [same_eq h.1, sames_eq' h.2]
end
theorem stdyS_ok {agg : Bool} {n : Nat} {a : S} {h h' : SH} (e : stdyS agg n a h h' = true) : stdy agg n (den σ a) (denH σ h) (denH σ h') = true := by
  unfold stdyS at e
  split at e
  · rename_i id off
    simp only [den, stdy]
    split at e
    · rename_i hn
      rw [if_pos (show (denH σ h).nx ≤ id from hn)]
    · rename_i hn
      rw [if_neg (show ¬ (denH σ h).nx ≤ id from hn)]
      rw [load_den, load_den]
      split at e
      · rename_i x y hx hy
        rw [hx, hy, sames_eq' e]
        simp only [Option.map_some]
        exact sames_refl _
      · cases e
  · cases e
theorem stdyGS_ok {g : S} {w b b' : Bool} (hb : b = true → b' = true) (e : stdyGS g w b = true) : stdyG (den σ g) w b' = true := by
  unfold stdyGS at e
  split at e
  · simp only [den, stdyG]
    split at e
    · rename_i hc; rw [if_pos hc]; exact hb e
    · rename_i hc; rw [if_neg hc]
  · simp only [den, stdyG]
    split
    · exact hb e
    · rfl
  · rename_i h1 h2
    cases g <;> first | rfl | exact (h1 _ rfl).elim | exact (h2 _ _ rfl).elim
def denST (σ : Nat → Int) (st : List (ES × SH)) : List (E × H) := st.map fun p => (denE σ p.1, denH σ p.2)
theorem stAt_den (st : List (ES × SH)) (N i : Nat) : stAt (denST σ st) N i = (denE σ (stAtS st N i).1, denH σ (stAtS st N i).2) := by
  unfold stAt stAtS denST
  simp only [List.getD_eq_getElem?_getD, List.getElem?_map]
  cases st[N - i]? with
  | none => rfl
  | some p => rfl
theorem stdyES_ok {ops : List IOp} {st : List (ES × SH)} {N l e : Nat} (h : stdyES ops st N l e = true) : stdyE ops (denST σ st) N l e = true := by
  unfold stdyES at h
  unfold stdyE
  split at h
  · rename_i o ho
    rw [ho]
    simp only
    split at h
    · rename_i agg n a hop
      rw [hop]
      simp only
      split at h
      · rename_i hg
        rw [hg]
        simp only [stAt_den, oE_den]
        exact stdyS_ok h
      · rename_i g hg
        rw [hg]
        simp only [stAt_den, oE_den]
        exact stdyGS_ok stdyS_ok h
    · cases h
  · cases h
variable {C : Nat → List S → SH → Tree} {C' : Nat → List V → H → Rr} {k : Nat}
def COk (σ : Nat → Int) (C : Nat → List S → SH → Tree) (C' : Nat → List V → H → Rr) : Prop := ∀ f a h, Sat σ h.pc → Ok σ (C f a h) (C' f (dens σ a) (denH σ h))
def KOk (σ : Nat → Int) (K : ES → SH → Tree) (K' : E → H → Rr) : Prop := ∀ e h, Sat σ h.pc → Ok σ (K e h) (K' (denE σ e) (denH σ h))
def QOk (σ : Nat → Int) (Q : X → ES → SH → Tree) (Q' : X → E → H → Rr) : Prop := ∀ x, KOk σ (Q x) (Q' x)
def gOp (C' : Nat → List V → H → Rr) (d : Option Nat) (op : Mx.Op) (g : Option (Nat × Bool)) (K : E → H → Rr) : E → H → Rr := match g with
  | none => dnOp C' d op K
  | some g => fun e h => rG (e g.1) g.2 (dnOp C' d op K e h) (K (updO e d undefV) h)
theorem dsOp_ok (hC : COk σ C C') {K : ES → SH → Tree} {K' : E → H → Rr} (hK : KOk σ K K') (d : Option Nat) (op : Mx.Op) (g : Option (Nat × Bool)) :
    KOk σ (dsOp C k d op g K) (gOp C' d op g K') := by
  intro e h hs
  have hk : ∀ v h, Sat σ h.pc → Ok σ (K (updOS e d v) h) (K' (updO (denE σ e) d (den σ v)) (denH σ h)) := fun v h hs => by
    rw [← denE_upd]; exact hK _ _ hs
  have hkd : ∀ v h1, Sat σ h1.pc → denH σ h1 = denH σ h → Ok σ (K (updOS e d v) h1) (K' (updO (denE σ e) d (den σ v)) (denH σ h)) := fun v h1 hs hd => by
    rw [← hd]; exact hk v h1 hs
  have vB : ∀ (o : SH → Res S) (o' : Option V), (∀ h1 a, Sat σ h1.pc → denH σ h1 = denH σ h → o h1 = .ok a → o' = some (den σ a)) →
      Ok σ (kB k o (fun v h => K (updOS e d v) h) h) (rB o' fun v => K' (updO (denE σ e) d v) (denH σ h)) := fun o o' ho =>
    kB_ok hs fun h1 a s1 d1 e1 => ⟨_, ho h1 a s1 d1 e1, hkd a h1 s1 d1⟩
  have vG : ∀ (gv : S) (w : Bool) (o : SH → Res S) (o' : Option V), (∀ h1 a, Sat σ h1.pc → denH σ h1 = denH σ h → o h1 = .ok a → o' = some (den σ a)) →
      Ok σ (kB k (gd gv w uS o) (fun v h => K (updOS e d v) h) h) (rG (den σ gv) w (rB o' fun v => K' (updO (denE σ e) d v) (denH σ h)) (K' (updO (denE σ e) d undefV) (denH σ h))) := by
    intro gv w o o' ho
    by_cases hg : den σ gv = .b w
    · rw [rG_b hg]
      refine kB_ok hs fun h1 a s1 d1 e1 => ?_
      rcases gd_ok s1 e1 with ⟨_, h2⟩ | ⟨h2, _⟩
      · exact ⟨_, ho h1 a s1 d1 h2, hkd a h1 s1 d1⟩
      · exact (h2 hg).elim
    · rw [rG_no hg]
      have := kB_ok (σ := σ) (o := gd gv w uS o) (k := fun v h => K (updOS e d v) h) (n := k) (o' := some ()) (k' := fun _ => K' (updO (denE σ e) d undefV) (denH σ h)) hs fun h1 a s1 d1 e1 => by
        rcases gd_ok s1 e1 with ⟨h2, _⟩ | ⟨_, h2⟩
        · exact (hg h2).elim
        · subst h2; exact ⟨(), rfl, hkd undefS h1 s1 d1⟩
      exact this
  have rB' : ∀ (o : SH → SR) (o' : Option (V × H)), (∀ h1 a, Sat σ h1.pc → denH σ h1 = denH σ h → o h1 = .ok a → HOk σ h1 a o') →
      Ok σ (kB k o (fun r _ => K (updOS e d r.1) r.2) h) (rB o' fun r => K' (updO (denE σ e) d r.1) r.2) := fun o o' ho =>
    kB_ok hs fun h1 a s1 d1 e1 => by
      obtain ⟨h2, h3⟩ := ho h1 a s1 d1 e1
      exact ⟨_, h2, hk a.1 a.2 (by rw [h3]; exact s1)⟩
  have rG' : ∀ (gv : S) (w : Bool) (o : SH → SR) (o' : Option (V × H)), (∀ h1 a, Sat σ h1.pc → denH σ h1 = denH σ h → o h1 = .ok a → HOk σ h1 a o') →
      Ok σ (kB k (gd gv w uR o) (fun r _ => K (updOS e d r.1) r.2) h) (rG (den σ gv) w (rB o' fun r => K' (updO (denE σ e) d r.1) r.2) (K' (updO (denE σ e) d undefV) (denH σ h))) := by
    intro gv w o o' ho
    by_cases hg : den σ gv = .b w
    · rw [rG_b hg]
      refine kB_ok hs fun h1 a s1 d1 e1 => ?_
      rcases gd_ok s1 e1 with ⟨_, h2⟩ | ⟨h2, _⟩
      · obtain ⟨h3, h4⟩ := ho h1 a s1 d1 h2
        exact ⟨_, h3, hk a.1 a.2 (by rw [h4]; exact s1)⟩
      · exact (h2 hg).elim
    · rw [rG_no hg]
      have := kB_ok (σ := σ) (o := gd gv w uR o) (k := fun r _ => K (updOS e d r.1) r.2) (n := k) (o' := some ()) (k' := fun _ => K' (updO (denE σ e) d undefV) (denH σ h)) hs fun h1 a s1 d1 e1 => by
        rcases gd_ok s1 e1 with ⟨h2, _⟩ | ⟨_, h2⟩
        · exact (hg h2).elim
        · subst h2; exact ⟨(), rfl, hkd undefS h1 s1 d1⟩
      exact this
  have cal : ∀ (f : Nat) (args : List Opd) (h1 : SH), Sat σ h1.pc → denH σ h1 = denH σ h → Ok σ (C f (oLS e args) h1) (C' f (oL (denE σ e) args) (denH σ h)) := by
    intro f args h1 s1 d1
    rw [oL_den, ← d1]; exact hC f _ h1 s1
  have calv : ∀ (x : Opd) (args : List Opd) (h1 : SH), Sat σ h1.pc → denH σ h1 = denH σ h → Ok σ (kV C (oES e x) (oLS e args) h1) (rV C' (oE (denE σ e) x) (oL (denE σ e) args) (denH σ h)) := by
    intro x args h1 s1 d1
    rw [oL_den, oE_den, ← d1]
    unfold kV
    split
    · rename_i f caps hx
      rw [hx]
      simp only [den, rV]
      rw [← dens_append]
      exact hC f _ h1 s1
    · exact Ok_no _
  cases op with
  | pu o =>
    have hp : ∀ h1 a, Sat σ h1.pc → denH σ h1 = denH σ h → pureS e h1.pc o = .ok a → pureE (denE σ e) o = some (den σ a) := fun h1 a s1 _ e1 => pureS_ok s1 e1
    cases g with
    | none =>
      cases o with
      | mov x =>
        show Ok σ (K (updOS e d (oES e x)) h) (K' (updO (denE σ e) d (oE (denE σ e) x)) (denH σ h))
        rw [oE_den]; exact hk _ _ hs
      | _ => exact vB _ _ hp
    | some g =>
      cases o with
      | mov x => exact vG (e g.1) g.2 _ _ hp
      | _ => exact vG (e g.1) g.2 _ _ hp
  | al o =>
    have hp : ∀ h1 a, Sat σ h1.pc → denH σ h1 = denH σ h → allocS e h1 o = .ok a → HOk σ h1 a (allocE (denE σ e) (denH σ h) o) := fun h1 a s1 d1 e1 => by rw [← d1]; exact allocS_ok s1 e1
    cases g with
    | none => exact rB' _ _ hp
    | some g => exact rG' (e g.1) g.2 _ _ hp
  | ld agg n a =>
    have hp : ∀ h1 s, Sat σ h1.pc → denH σ h1 = denH σ h → sLd agg n (oES e a) h1 = .ok s → vLd (denH σ h) agg n (oE (denE σ e) a) = some (den σ s) := fun h1 s s1 d1 e1 => by
      rw [← d1, oE_den]; exact sLd_ok e1
    cases g with
    | none => exact vB _ _ hp
    | some g => exact vG (e g.1) g.2 _ _ hp
  | ef o =>
    have hp : ∀ h1 a, Sat σ h1.pc → denH σ h1 = denH σ h → effS e h1 o = .ok a → HOk σ h1 a (effE (denE σ e) (denH σ h) o) := fun h1 a s1 d1 e1 => by rw [← d1]; exact effS_ok s1 e1
    cases o with
    | call f args =>
      cases g with
      | none => exact kK_ok (k' := fun v h' => K' (updO (denE σ e) d v) h') (fun v h hs => hk v h hs) (cal f args h hs rfl)
      | some g => exact kG_ok (k' := fun v h' => K' (updO (denE σ e) d v) h') hs (fun h1 s1 d1 => cal f args h1 s1 d1) (fun v h hs => hk v h hs)
    | callv x args =>
      cases g with
      | none => exact kK_ok (k' := fun v h' => K' (updO (denE σ e) d v) h') (fun v h hs => hk v h hs) (calv x args h hs rfl)
      | some g => exact kG_ok (k' := fun v h' => K' (updO (denE σ e) d v) h') hs (fun h1 s1 d1 => calv x args h1 s1 d1) (fun v h hs => hk v h hs)
    | _ =>
      cases g with
      | none => exact rB' _ _ hp
      | some g => exact rG' (e g.1) g.2 _ _ hp
theorem dsOps_ok (hC : COk σ C C') : ∀ (l : List IOp) {K : ES → SH → Tree} {K' : E → H → Rr}, KOk σ K K' → KOk σ (dsOps C k l K) (dnOps C' l K')
  | [], K, K', hK => hK
  | ⟨d, op, g⟩ :: l, K, K', hK => by
    have := dsOp_ok (k := k) hC (dsOps_ok hC l hK) d op g
    cases g with
    | none => exact this
    | some g => exact this
theorem dsT_ok (hC : COk σ C C') : ∀ (l : List IOp) {K : List (ES × SH) → ES → SH → Tree} {K' : List (E × H) → E → H → Rr}, (∀ st, KOk σ (K st) (K' (denST σ st))) → ∀ st, KOk σ (dsT C k l K st) (dnT C' l K' (denST σ st))
  | [], K, K', hK, st => hK st
  | ⟨d, op, g⟩ :: l, K, K', hK, st => by
    intro e h hs
    have ih := dsT_ok hC l hK ((e, h) :: st)
    have := dsOp_ok (k := k) hC ih d op g e h hs
    cases g with
    | none => exact this
    | some g => exact this
theorem kChk_ok {ops : List IOp} {st : List (ES × SH)} {N : Nat} {t : Tree} {r : Rr} (ht : Ok σ t r) : ∀ ps : List (Nat × Nat), Ok σ (kChk ops st N ps t) (rChk ops (denST σ st) N ps r)
  | [] => ht
  | p :: ps => by
    show Ok σ (kC (stdyES ops st N p.1 p.2) (kChk ops st N ps t)) (rC (stdyE ops (denST σ st) N p.1 p.2) (rChk ops (denST σ st) N ps r))
    cases hp : stdyES ops st N p.1 p.2 with
    | false => exact Ok_no _
    | true => rw [stdyES_ok hp]; exact kChk_ok ht ps
theorem QxS_ok {Q : X → ES → SH → Tree} {Q' : X → E → H → Rr} (hQ : QOk σ Q Q') {g : ES → SH → Tree} {g' : E → H → Rr} (hg : KOk σ g g') : QOk σ (QxS g Q) (Qxr g' Q') := by
  intro x
  cases x with
  | normal => exact hg
  | exit id => exact hQ _
  | ret => exact hQ _
theorem ds_ok (hC : COk σ C C') : ∀ (c : IC) {Q : X → ES → SH → Tree} {Q' : X → E → H → Rr}, QOk σ Q Q' → KOk σ (ds C k c Q) (dn C' k c Q')
  | .skip, Q, Q', hQ => hQ _
  | .exit id, Q, Q', hQ => hQ _
  | .ret, Q, Q', hQ => hQ _
  | .region ops, Q, Q', hQ => dsOps_ok hC ops (hQ _)
  | .draw ops [], Q, Q', hQ => dsOps_ok hC ops (hQ _)
  | .draw ops (p :: ps), Q, Q', hQ => by
    refine dsT_ok hC ops (K := fun st e h => kChk ops ((e, h) :: st) ops.length (p :: ps) (Q .normal e h)) (K' := fun st e h => rChk ops ((e, h) :: st) ops.length (p :: ps) (Q' .normal e h)) ?_ []
    intro st e h hs
    exact kChk_ok (st := (e, h) :: st) (hQ .normal e h hs) (p :: ps)
  | .seq a b, Q, Q', hQ => ds_ok hC a (QxS_ok hQ (ds_ok hC b hQ))
  | .cond c a b, Q, Q', hQ => by
    intro e h hs
    have e1 : dn C' k (.cond c a b) Q' (denE σ e) (denH σ h) = rS (den σ (oES e c)) (dn C' k a Q' (denE σ e) (denH σ h)) (dn C' k b Q' (denE σ e) (denH σ h)) := by rw [← oE_den]; rfl
    rw [e1]
    exact kS_ok hs (fun h1 s1 d1 _ => by rw [← d1]; exact ds_ok hC a hQ e h1 s1) (fun h1 s1 d1 _ => by rw [← d1]; exact ds_ok hC b hQ e h1 s1)
  | .block id c, Q, Q', hQ => by
    refine ds_ok hC c (Q := QbS id Q) (Q' := Qbr id Q') ?_
    intro x
    cases x with
    | normal => exact hQ _
    | ret => exact hQ _
    | exit i =>
      simp only [QbS, Qbr]
      cases Nat.beq i id
      · exact hQ _
      · exact hQ _
  | .loop c, Q, Q', hQ => by
    have main : ∀ m, KOk σ (kFix m fun g => ds C k c (QxS g Q)) (rFix m fun g => dn C' k c (Qxr g Q')) := by
      intro m
      induction m with
      | zero => intro e h hs; exact Ok_no _
      | succ m im => exact ds_ok hC c (QxS_ok hQ im)
    exact main k
theorem tup_den (vs : List S) : den σ (tupS vs) = tupV (dens σ vs) := by
  rcases vs with _ | ⟨a, _ | ⟨b, l⟩⟩ <;> rfl
theorem dsRes_ok : ∀ (rs : List RV) {K : List S → SH → Tree} {K' : List V → Rr} {H0 : H}, (∀ vs h, Sat σ h.pc → denH σ h = H0 → Ok σ (K vs h) (K' (dens σ vs))) → ∀ (e : ES) (h : SH), Sat σ h.pc → denH σ h = H0 → Ok σ (dsRes k rs K e h) (dnRes rs K' (denE σ e) (denH σ h))
  | [], K, K', H0, hK, e, h, hs, hd => hK [] h hs hd
  | .t n :: l, K, K', H0, hK, e, h, hs, hd => dsRes_ok l (K' := fun vs => K' (den σ (e n) :: vs)) (fun vs h hs hd => hK (e n :: vs) h hs hd) e h hs hd
  | .c n agg sz :: l, K, K', H0, hK, e, h, hs, hd => by
    refine kB_ok hs fun h1 a s1 d1 e1 => ⟨den σ a, ?_, ?_⟩
    · rw [← d1]; exact sLd_ok e1
    · have := dsRes_ok l (K := fun vs h => K (a :: vs) h) (K' := fun vs => K' (den σ a :: vs)) (fun vs h hs hd => hK (a :: vs) h hs hd) e h1 s1 (d1.trans hd)
      rw [d1] at this; exact this
theorem QrS_ok (rs : List RV) : QOk σ (QrS k rs) (Qrr rs) := by
  intro x
  have key : KOk σ (fun e h => dsRes k rs (fun vs h => .leaf (tupS vs) h) e h) (fun e h => dnRes rs (fun vs => some (tupV vs, h)) e h) := by
    intro e h hs
    refine dsRes_ok rs (K' := fun vs => some (tupV vs, denH σ h)) (H0 := denH σ h) (fun vs h1 s1 d1 => ?_) e h hs rfl
    rw [← tup_den, ← d1]
    exact Ok_leaf s1
  cases x with
  | normal => exact key
  | ret => exact key
  | exit id => intro e h hs; exact Ok_no _
end
abbrev SF := (Nat → List S → SH → Tree) → Nat → List S → SH → Tree
def srun (RP : Nat → Option SF) : Nat → Nat → List S → SH → Tree
  | 0, _, _, _ => .no
  | k + 1, f, a, h => match RP f with
    | some F => F (srun RP k) k a h
    | none => .no
def envS (a : List S) : ES := fun k => a.getD k undefS
def SOK (IP : Nat → Option IFn) (f : Nat) (F : SF) : Prop := ∃ fn, IP f = some fn ∧ fn.body.ok fn.ntmps = true ∧ ∀ C k a h, F C k a h = .no ∨ (Nat.ble a.length fn.ntmps = true ∧ F C k a h = ds C k fn.body (QrS k fn.results) (envS a) h)
theorem envS_den {σ : Nat → Int} (a : List S) : denE σ (envS a) = envOf (dens σ a) := by
  funext k
  simp only [denE, envS, envOf, List.getD_eq_getElem?_getD, dens_get]
  cases a[k]? <;> rfl
theorem srun_ev {IP : Nat → Option IFn} {RP : Nat → Option SF} (hR : ∀ f F, RP f = some F → SOK IP f F) {σ : Nat → Int} : ∀ k, COk σ (srun RP k) (ev IP k)
  | 0 => fun f a h hs => Ok_no _
  | k + 1 => fun f a h hs => by
    unfold srun
    cases hF : RP f with
    | none => exact Ok_no _
    | some F =>
      obtain ⟨fn, h1, h2, h3⟩ := hR f F hF
      simp only
      rcases h3 (srun RP k) k a h with h4 | ⟨h4, h5⟩
      · rw [h4]; exact Ok_no _
      · rw [h5]
        have key := ds_ok (k := k) (srun_ev hR (σ := σ) k) fn.body (QrS_ok (k := k) fn.results) (envS a) h hs
        have hl : Nat.ble (dens σ a).length fn.ntmps = true := by rw [dens_length]; exact h4
        rw [envS_den, fn_dn h2 hl] at key
        unfold ev
        rw [h1]
        exact key
def sf0 (K : CT → Nat → SH → Tree) : SF := fun C k a h => match a with
  | [] => K C k h
  | _ => .no
theorem sok0 {IP : Nat → Option IFn} {f : Nat} {K : CT → Nat → SH → Tree} (ir : IFn) (ip : IP f = some ir) (ok : ir.body.ok ir.ntmps = true) (nb : Nat.ble 0 ir.ntmps = true) (sp : ∀ C k  h, ds C k ir.body (QrS k ir.results) (envS []) h = K C k  h) : SOK IP f (sf0 K) := ⟨ir, ip, ok, fun C k a h => by
  unfold sf0
  split
  · exact .inr ⟨nb, (sp ..).symm⟩
  · exact .inl rfl⟩
def sf1 (K : CT → Nat → S → SH → Tree) : SF := fun C k a h => match a with
  | [x0] => K C k x0 h
  | _ => .no
theorem sok1 {IP : Nat → Option IFn} {f : Nat} {K : CT → Nat → S → SH → Tree} (ir : IFn) (ip : IP f = some ir) (ok : ir.body.ok ir.ntmps = true) (nb : Nat.ble 1 ir.ntmps = true) (sp : ∀ C k x0 h, ds C k ir.body (QrS k ir.results) (envS [x0]) h = K C k x0 h) : SOK IP f (sf1 K) := ⟨ir, ip, ok, fun C k a h => by
  unfold sf1
  split
  · exact .inr ⟨nb, (sp ..).symm⟩
  · exact .inl rfl⟩
def sf2 (K : CT → Nat → S → S → SH → Tree) : SF := fun C k a h => match a with
  | [x0, x1] => K C k x0 x1 h
  | _ => .no
theorem sok2 {IP : Nat → Option IFn} {f : Nat} {K : CT → Nat → S → S → SH → Tree} (ir : IFn) (ip : IP f = some ir) (ok : ir.body.ok ir.ntmps = true) (nb : Nat.ble 2 ir.ntmps = true) (sp : ∀ C k x0 x1 h, ds C k ir.body (QrS k ir.results) (envS [x0, x1]) h = K C k x0 x1 h) : SOK IP f (sf2 K) := ⟨ir, ip, ok, fun C k a h => by
  unfold sf2
  split
  · exact .inr ⟨nb, (sp ..).symm⟩
  · exact .inl rfl⟩
def sf3 (K : CT → Nat → S → S → S → SH → Tree) : SF := fun C k a h => match a with
  | [x0, x1, x2] => K C k x0 x1 x2 h
  | _ => .no
theorem sok3 {IP : Nat → Option IFn} {f : Nat} {K : CT → Nat → S → S → S → SH → Tree} (ir : IFn) (ip : IP f = some ir) (ok : ir.body.ok ir.ntmps = true) (nb : Nat.ble 3 ir.ntmps = true) (sp : ∀ C k x0 x1 x2 h, ds C k ir.body (QrS k ir.results) (envS [x0, x1, x2]) h = K C k x0 x1 x2 h) : SOK IP f (sf3 K) := ⟨ir, ip, ok, fun C k a h => by
  unfold sf3
  split
  · exact .inr ⟨nb, (sp ..).symm⟩
  · exact .inl rfl⟩
def sf4 (K : CT → Nat → S → S → S → S → SH → Tree) : SF := fun C k a h => match a with
  | [x0, x1, x2, x3] => K C k x0 x1 x2 x3 h
  | _ => .no
theorem sok4 {IP : Nat → Option IFn} {f : Nat} {K : CT → Nat → S → S → S → S → SH → Tree} (ir : IFn) (ip : IP f = some ir) (ok : ir.body.ok ir.ntmps = true) (nb : Nat.ble 4 ir.ntmps = true) (sp : ∀ C k x0 x1 x2 x3 h, ds C k ir.body (QrS k ir.results) (envS [x0, x1, x2, x3]) h = K C k x0 x1 x2 x3 h) : SOK IP f (sf4 K) := ⟨ir, ip, ok, fun C k a h => by
  unfold sf4
  split
  · exact .inr ⟨nb, (sp ..).symm⟩
  · exact .inl rfl⟩
theorem sm {α : Type} {P : α → Prop} {v : α} (h : P v) : ∀ x, some v = some x → P x := fun _ e => by cases e; exact h
theorem nm {α : Type} {P : α → Prop} : ∀ x, none = some x → P x := fun _ e => by cases e
theorem sok_of_tree {IP : Nat → Option IFn} {t : Tr SF} (h : t.All (SOK IP) 1 0) : ∀ f F, t.get f = some F → SOK IP f F := fun f F hf => by
  have := h.get hf
  rwa [Nat.one_mul, Nat.add_zero] at this
def Tree.allT : Tree → Bool
  | .leaf (.b true) _ => true
  | .fork _ l r => l.allT && r.allT
  | _ => false
theorem allT_ok {σ : Nat → Int} : ∀ {t : Tree} {r : Rr}, t.allT = true → Ok σ t r → ∃ h, r = some (.b true, h)
  | .leaf v h, r, ha, ho => by
    obtain ⟨_, h2⟩ := ho v h rfl
    cases v <;> try (simp [Tree.allT] at ha; done)
    rename_i b
    cases b
    · simp [Tree.allT] at ha
    · exact ⟨_, h2⟩
  | .no, r, ha, _ => by cases ha
  | .fork a l r, x, ha, ho => by
    simp only [Tree.allT, Bool.and_eq_true] at ha
    cases he : a.ev σ with
    | true => exact allT_ok ha.1 fun v h e => ho v h (by simp only [Tree.sel, he]; exact e)
    | false => exact allT_ok ha.2 fun v h e => ho v h (by simp only [Tree.sel, he]; exact e)
end
end Sx
