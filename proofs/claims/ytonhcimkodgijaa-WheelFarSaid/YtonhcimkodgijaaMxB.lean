/-
  How the abstract machine's values and rows stand for the loaded program's: a place for each number; what a step may change.
-/
import Derived.Test.YtonhcimkodgijaaMxA
import Derived.Laws.CopyRow
import Derived.Laws.MakeOwn
import Derived.Laws.BytesString
import Derived.Laws.Slices
import Derived.Laws.Rows
namespace Mx
open Go

structure Pl where
  blk : Nat
  sh : Nat
  lim : Nat

abbrev En := Nat → Option Pl
def Le (e e' : En) : Prop := ∀ id p, e id = some p → e' id = some p
theorem Le.refl (e : En) : Le e e := fun _ _ h => h
theorem Le.trans {a b c : En} (h : Le a b) (k : Le b c) : Le a c := fun _ _ x => k _ _ (h _ _ x)

def capOk (pl : Pl) (off len : Nat) : Cap → Prop
  | .ex c => len ≤ c
  | .op es => 0 < es ∧ off + pl.sh + len * es ≤ pl.lim
  | .ol kn es => 0 < es ∧ len ≤ kn ∧ off + pl.sh + kn * es ≤ pl.lim
def capOf (pl : Pl) (off : Nat) : Cap → Nat
  | .ex c => c
  | .op es => (pl.lim - (off + pl.sh)) / es
  | .ol _ es => (pl.lim - (off + pl.sh)) / es

mutual
def R (e : En) : V → Value → Prop
  | .i k n, v => v = .int k n
  | .b x, v => v = .bool x
  | .s x, v => v = .string x
  | .p none, v => v = .pointer none
  | .p (some a), v => ∃ pl, e a.1 = some pl ∧ v = .pointer (some ⟨pl.blk, a.2 + pl.sh, none⟩)
  | .sl id off len c, v => ∃ pl, e id = some pl ∧ capOk pl off len c ∧ v = .slice (some ⟨pl.blk, off + pl.sh, none⟩) len (capOf pl off c)
  | .nsl, v => v = .slice none 0 0
  | .es z, v => ∃ a c, v = .slice (some a) 0 c ∧ (z = true → c = 0)
  | .so id off es, v => ∃ pl, e id = some pl ∧ 0 < es ∧ off + pl.sh ≤ pl.lim ∧ (v = .slice (some ⟨pl.blk, off + pl.sh, none⟩) 0 ((pl.lim - (off + pl.sh)) / es) ∨ ((pl.lim - (off + pl.sh)) / es = 0 ∧ ∃ a, v = .slice (some a) 0 0))
  | .fn f caps, v => ∃ cs : Array Value, v = .func (.func f) #[] cs ∧ RL e caps cs.toList
  | .nfn, v => v = .nilFunc
  | .agg l, v => ∃ cs : Array Value, v = .agg cs ∧ RL e l cs.toList
  | .tup l, v => ∃ cs : Array Value, v = .tuple cs ∧ RL e l cs.toList
def RL (e : En) : List V → List Value → Prop
  | [], vs => vs = []
  | x :: l, vs => ∃ v r, vs = v :: r ∧ R e x v ∧ RL e l r
end

mutual
theorem R.mono {e e' : En} (h : Le e e') : ∀ (x : V) (v : Value), R e x v → R e' x v
  | .i k n, v, r => by simpa only [R] using r
  | .b x, v, r => by simpa only [R] using r
  | .s x, v, r => by simpa only [R] using r
  | .p none, v, r => by simpa only [R] using r
  | .p (some a), v, r => by
    simp only [R] at r ⊢
    obtain ⟨pl, h1, h2⟩ := r
    exact ⟨pl, h _ _ h1, h2⟩
  | .sl id off len c, v, r => by
    simp only [R] at r ⊢
    obtain ⟨pl, h1, h2⟩ := r
    exact ⟨pl, h _ _ h1, h2⟩
  | .nsl, v, r => by simpa only [R] using r
  | .es z, v, r => by simpa only [R] using r
  | .so id off es, v, r => by
    simp only [R] at r ⊢
    obtain ⟨pl, h1, h2⟩ := r
    exact ⟨pl, h _ _ h1, h2⟩
  | .fn f caps, v, r => by
    simp only [R] at r ⊢
    obtain ⟨cs, h1, h2⟩ := r
    exact ⟨cs, h1, RL.mono h _ _ h2⟩
  | .nfn, v, r => by simpa only [R] using r
  | .agg l, v, r => by
    simp only [R] at r ⊢
    obtain ⟨cs, h1, h2⟩ := r
    exact ⟨cs, h1, RL.mono h _ _ h2⟩
  | .tup l, v, r => by
    simp only [R] at r ⊢
    obtain ⟨cs, h1, h2⟩ := r
    exact ⟨cs, h1, RL.mono h _ _ h2⟩
theorem RL.mono {e e' : En} (h : Le e e') : ∀ (l : List V) (vs : List Value), RL e l vs → RL e' l vs
  | [], vs, r => by simpa only [RL] using r
  | x :: l, vs, r => by
    simp only [RL] at r ⊢
    obtain ⟨v, q, h1, h2, h3⟩ := r
    exact ⟨v, q, h1, R.mono h _ _ h2, RL.mono h _ _ h3⟩
end

theorem RL_nil {e : En} : RL e [] [] := by simp only [RL]
theorem RL_cons {e : En} {x : V} {l : List V} {v : Value} {r : List Value} (h : R e x v) (k : RL e l r) : RL e (x :: l) (v :: r) := by
  simp only [RL]; exact ⟨v, r, rfl, h, k⟩
theorem RL_cons_inv {e : En} {x : V} {l : List V} {vs : List Value} (h : RL e (x :: l) vs) : ∃ v r, vs = v :: r ∧ R e x v ∧ RL e l r := by simpa only [RL] using h
theorem RL_nil_inv {e : En} {vs : List Value} (h : RL e [] vs) : vs = [] := by simpa only [RL] using h

theorem RL.length {e : En} : ∀ {l : List V} {vs : List Value}, RL e l vs → l.length = vs.length
  | [], vs, h => by rw [RL_nil_inv h]; rfl
  | x :: l, vs, h => by
    obtain ⟨v, r, rfl, _, h3⟩ := RL_cons_inv h
    simp [RL.length h3]

theorem RL.at {e : En} : ∀ {l : List V} {vs : List Value} (_ : RL e l vs) {k : Nat} {x : V}, l[k]? = some x → ∃ v, vs[k]? = some v ∧ R e x v
  | [], vs, _, k, x, hk => by simp at hk
  | y :: l, vs, h, k, x, hk => by
    obtain ⟨v, r, rfl, h2, h3⟩ := RL_cons_inv h
    cases k with
    | zero => simp at hk; subst hk; exact ⟨v, rfl, h2⟩
    | succ k => simp at hk; simpa using RL.at h3 hk

theorem RL.of {e : En} : ∀ {l : List V} {vs : List Value}, l.length = vs.length → (∀ (k : Nat) (x : V), l[k]? = some x → ∃ v, vs[k]? = some v ∧ R e x v) → RL e l vs
  | [], vs, hl, _ => by
    have : vs = [] := List.eq_nil_of_length_eq_zero hl.symm
    subst this; exact RL_nil
  | x :: l, [], hl, _ => by simp at hl
  | x :: l, v :: r, hl, h => by
    refine RL_cons ?_ (RL.of (by simpa using hl) fun k y hk => ?_)
    · obtain ⟨v', h1, h2⟩ := h 0 x rfl
      simp at h1; subst h1; exact h2
    · obtain ⟨v', h1, h2⟩ := h (k + 1) y (by simpa using hk)
      exact ⟨v', by simpa using h1, h2⟩

theorem RL.append {e : En} : ∀ {l m : List V} {vs us : List Value}, RL e l vs → RL e m us → RL e (l ++ m) (vs ++ us)
  | [], m, vs, us, h, k => by rw [RL_nil_inv h]; simpa using k
  | x :: l, m, vs, us, h, k => by
    obtain ⟨v, r, rfl, h2, h3⟩ := RL_cons_inv h
    exact RL_cons h2 (RL.append h3 k)

theorem RL.take {e : En} : ∀ {l : List V} {vs : List Value} (n : Nat), RL e l vs → RL e (l.take n) (vs.take n)
  | [], vs, n, h => by rw [RL_nil_inv h]; simp; exact RL_nil
  | x :: l, vs, 0, h => by simp; exact RL_nil
  | x :: l, vs, n + 1, h => by
    obtain ⟨v, r, rfl, h2, h3⟩ := RL_cons_inv h
    simpa using RL_cons h2 (RL.take n h3)

theorem RL.drop {e : En} : ∀ {l : List V} {vs : List Value} (n : Nat), RL e l vs → RL e (l.drop n) (vs.drop n)
  | [], vs, n, h => by rw [RL_nil_inv h]; simp; exact RL_nil
  | x :: l, vs, 0, h => by simpa using h
  | x :: l, vs, n + 1, h => by
    obtain ⟨v, r, rfl, h2, h3⟩ := RL_cons_inv h
    simpa using RL.drop n h3

theorem RL.set {e : En} : ∀ {l : List V} {vs : List Value} (n : Nat) {x : V} {v : Value}, RL e l vs → R e x v → RL e (l.set n x) (vs.set n v)
  | [], vs, n, x, v, h, _ => by rw [RL_nil_inv h]; simp; exact RL_nil
  | y :: l, vs, 0, x, v, h, k => by
    obtain ⟨v', r, rfl, h2, h3⟩ := RL_cons_inv h
    simpa using RL_cons k h3
  | y :: l, vs, n + 1, x, v, h, k => by
    obtain ⟨v', r, rfl, h2, h3⟩ := RL_cons_inv h
    simpa using RL_cons h2 (RL.set n h3 k)

theorem RL.replicate {e : En} {x : V} {v : Value} (h : R e x v) : ∀ n, RL e (List.replicate n x) (List.replicate n v)
  | 0 => RL_nil
  | n + 1 => by simpa [List.replicate_succ] using RL_cons h (RL.replicate h n)

theorem R_undef (e : En) : R e undefV undef := by simp only [undefV, R, undef]; exact ⟨#[], rfl, RL_nil⟩

theorem RL.getD {e : En} {l : List V} {vs : List Value} (h : RL e l vs) (k : Nat) : R e (l.getD k undefV) (vs.getD k undef) := by
  by_cases hk : k < l.length
  · obtain ⟨v, h1, h2⟩ := h.at (List.getElem?_eq_getElem hk)
    simp only [List.getD_eq_getElem?_getD, h1, List.getElem?_eq_getElem hk, Option.getD_some]
    exact h2
  · have hk' : ¬ k < vs.length := by rw [← h.length]; exact hk
    simp only [List.getD_eq_getElem?_getD, List.getElem?_eq_none (Nat.le_of_not_lt hk), List.getElem?_eq_none (Nat.le_of_not_lt hk'), Option.getD_none]
    exact R_undef e

/-- what is surely there, nobody need know -/
theorem R_ol {e : En} {id off len kn es : Nat} {v : Value} (h : R e (.sl id off len (.ol kn es)) v) : R e (.sl id off len (.op es)) v := by
  simp only [R] at h ⊢
  obtain ⟨pl, h1, ⟨h2, h3, h4⟩, h5⟩ := h
  refine ⟨pl, h1, ⟨h2, ?_⟩, h5⟩
  have := Nat.mul_le_mul_right es h3
  omega
theorem capOk_mk {pl : Pl} {off len kn es : Nat} (h0 : 0 < es) (h1 : len ≤ kn) (h2 : off + pl.sh + kn * es ≤ pl.lim) : capOk pl off len (mkOp len kn es) := by
  unfold mkOp
  split
  · rename_i h; subst h; exact ⟨h0, h2⟩
  · exact ⟨h0, h1, h2⟩
theorem capOf_mk {pl : Pl} {off len kn es : Nat} : capOf pl off (mkOp len kn es) = (pl.lim - (off + pl.sh)) / es := by
  unfold mkOp
  split <;> rfl
/-- an open slice of no elements -/
theorem R_so {e : En} {id off es : Nat} {v : Value} (h : R e (.so id off es) v) : ∃ a c, v = .slice (some a) 0 c ∧ (R e (.sl id off 0 (.op es)) v ∨ (c = 0 ∧ ∃ pl, e id = some pl ∧ 0 < es ∧ off + pl.sh ≤ pl.lim ∧ (pl.lim - (off + pl.sh)) / es = 0)) := by
  simp only [R] at h
  obtain ⟨pl, h1, h2, h3, rfl | ⟨h4, a, rfl⟩⟩ := h
  · refine ⟨_, _, rfl, .inl ?_⟩
    simp only [R]
    exact ⟨pl, h1, ⟨h2, by omega⟩, rfl⟩
  · exact ⟨a, 0, rfl, .inr ⟨rfl, pl, h1, h2, h3, h4⟩⟩

theorem R_cells {e : En} {x : V} {v : Value} (h : R e x v) : RL e x.cells v.cells.toList := by
  cases x with
  | p a => cases a <;> simp only [R] at h
           · subst h; exact RL_cons (by simp only [R]) RL_nil
           · obtain ⟨pl, h1, rfl⟩ := h
             exact RL_cons (by simp only [R]; exact ⟨pl, h1, rfl⟩) RL_nil
  | agg l => simp only [R] at h; obtain ⟨cs, rfl, h2⟩ := h; exact h2
  | i k n => simp only [R] at h; subst h; exact RL_cons (by simp only [R]) RL_nil
  | b x => simp only [R] at h; subst h; exact RL_cons (by simp only [R]) RL_nil
  | s x => simp only [R] at h; subst h; exact RL_cons (by simp only [R]) RL_nil
  | nsl => simp only [R] at h; subst h; exact RL_cons (by simp only [R]) RL_nil
  | nfn => simp only [R] at h; subst h; exact RL_cons (by simp only [R]) RL_nil
  | sl id off len c => have h' := h; simp only [R] at h; obtain ⟨pl, h1, h2, rfl⟩ := h; exact RL_cons h' RL_nil
  | es z => have h' := h; simp only [R] at h; obtain ⟨a, c, rfl, h2⟩ := h; exact RL_cons h' RL_nil
  | so id off es => have h' := h; obtain ⟨a, c, rfl, h2⟩ := R_so h; exact RL_cons h' RL_nil
  | fn f c => have h' := h; simp only [R] at h; obtain ⟨cs, rfl, h2⟩ := h; exact RL_cons h' RL_nil
  | tup l => have h' := h; simp only [R] at h; obtain ⟨cs, rfl, h2⟩ := h; exact RL_cons h' RL_nil

theorem R_one {e : En} {x : V} {v : Value} (h : R e x v) (h1 : x.one = true) : v.oneCell' = true := by
  cases x with
  | p a => cases a <;> simp only [R] at h
           · subst h; rfl
           · obtain ⟨pl, h1, rfl⟩ := h; rfl
  | agg l => simp [V.one] at h1
  | tup l => simp [V.one] at h1
  | i k n => simp only [R] at h; subst h; rfl
  | b x => simp only [R] at h; subst h; rfl
  | s x => simp only [R] at h; subst h; rfl
  | nsl => simp only [R] at h; subst h; rfl
  | nfn => simp only [R] at h; subst h; rfl
  | sl id off len c => simp only [R] at h; obtain ⟨pl, h1, h2, rfl⟩ := h; rfl
  | es z => simp only [R] at h; obtain ⟨a, c, rfl, h2⟩ := h; rfl
  | so id off es => obtain ⟨a, c, rfl, h2⟩ := R_so h; rfl
  | fn f c => simp only [R] at h; obtain ⟨cs, rfl, h2⟩ := h; rfl

theorem RL_one {e : En} : ∀ {l : List V} {vs : List Value}, RL e l vs → l.all V.one = true → ∀ v ∈ vs, v.oneCell' = true
  | [], vs, h, _ => by rw [RL_nil_inv h]; simp
  | x :: l, vs, h, ha => by
    obtain ⟨v, r, rfl, h2, h3⟩ := RL_cons_inv h
    simp only [List.all_cons, Bool.and_eq_true] at ha
    intro u hu
    cases hu with
    | head => exact R_one h2 ha.1
    | tail _ hm => exact RL_one h3 ha.2 u hm

/-! ### rows -/
def ORel (e : En) (o : O) (pl : Pl) (w : World) : Prop :=
  ∃ (C : Array Value) (t : TypeId) (fz : Nat × Nat), w.heap[pl.blk]? = some (.cells C t fz) ∧ (o.ro = false → fz = (0, 0) ∧ pl.lim = C.size) ∧ pl.sh + o.c.length ≤ C.size ∧
    RL e o.c ((C.toList.drop pl.sh).take o.c.length)

structure Sim (e : En) (h : H) (w : World) : Prop where
  obj : ∀ id o pl, h.get id = some o → e id = some pl → ORel e o pl w
  inj : ∀ i j oi oj pi pj, i ≠ j → h.get i = some oi → oi.ro = false → h.get j = some oj → e i = some pi → e j = some pj → pi.blk ≠ pj.blk
  low : ∀ id, h.nx ≤ id → h.get id = none

def Img (e : En) (h : H) (b : Nat) : Prop := ∃ id o pl, h.get id = some o ∧ o.ro = false ∧ e id = some pl ∧ pl.blk = b

/-- a block that a row stands for, be it one's own or not -/
def Any (e : En) (h : H) (b : Nat) : Prop := ∃ id o pl, h.get id = some o ∧ e id = some pl ∧ pl.blk = b

structure St (e : En) (h : H) (w : World) (e' : En) (h' : H) (w' : World) : Prop where
  le : Le e e'
  dom : ∀ id, e id = none → e' id ≠ none → h.nx ≤ id ∧ id < h'.nx
  nx : h.nx ≤ h'.nx
  img : ∀ b, Img e' h' b → Img e h b ∨ w.heap.size ≤ b
  keep : ∀ b, b < w.heap.size → ¬ Img e h b → w'.heap[b]? = w.heap[b]?
  size : w.heap.size ≤ w'.heap.size
  os : w'.os = w.os
  tape : w'.tape = w.tape
  output : w'.output = w.output
  any : ∀ b, Any e' h' b → Any e h b ∨ w.heap.size ≤ b
  out : ∀ id, id < h.nx → e id = none → h'.get id = h.get id

theorem St.refl (e : En) (h : H) (w : World) : St e h w e h w :=
  ⟨Le.refl _, fun _ a b => (b a).elim, Nat.le_refl _, fun _ x => .inl x, fun _ _ _ => rfl, Nat.le_refl _, rfl, rfl, rfl, fun _ x => .inl x, fun _ _ _ => rfl⟩

theorem St.trans {e e1 e2 : En} {h h1 h2 : H} {w w1 w2 : World} (a : St e h w e1 h1 w1) (b : St e1 h1 w1 e2 h2 w2) : St e h w e2 h2 w2 where
  le := a.le.trans b.le
  dom := fun id h0 h2' => by
    by_cases hm : e1 id = none
    · have := b.dom id hm h2'
      exact ⟨Nat.le_trans a.nx this.1, this.2⟩
    · have := a.dom id h0 hm
      exact ⟨this.1, Nat.lt_of_lt_of_le this.2 b.nx⟩
  nx := Nat.le_trans a.nx b.nx
  img := fun x hx => by
    rcases b.img x hx with h1 | h1
    · exact a.img x h1
    · exact .inr (Nat.le_trans a.size h1)
  keep := fun x hx hn => by
    rw [b.keep x (Nat.lt_of_lt_of_le hx a.size) (fun hi => (a.img x hi).elim hn (fun hs => by omega))]
    exact a.keep x hx hn
  size := Nat.le_trans a.size b.size
  os := b.os.trans a.os
  tape := b.tape.trans a.tape
  output := b.output.trans a.output
  any := fun x hx => by
    rcases b.any x hx with h1 | h1
    · exact a.any x h1
    · exact .inr (Nat.le_trans a.size h1)
  out := fun id hid h0 => by
    have h1 : e1 id = none := Decidable.byContradiction fun hne => by
      have := a.dom id h0 hne
      omega
    rw [b.out id (Nat.lt_of_lt_of_le hid a.nx) h1, a.out id hid h0]

theorem ORel.mono {e e' : En} {o : O} {pl : Pl} {w w' : World} (h : ORel e o pl w) (hl : Le e e') (hw : w'.heap[pl.blk]? = w.heap[pl.blk]?) : ORel e' o pl w' := by
  obtain ⟨C, t, fz, h1, h2, h3, h4⟩ := h
  exact ⟨C, t, fz, hw.trans h1, h2, h3, RL.mono hl _ _ h4⟩

theorem ORel.lt {e : En} {o : O} {pl : Pl} {w : World} (h : ORel e o pl w) : pl.blk < w.heap.size := by
  obtain ⟨C, t, fz, h1, _⟩ := h
  exact (Array.getElem?_eq_some_iff.1 h1).1

/-- a world that has drawn -/
theorem Sim.drew {e : En} {h : H} {w : World} (s : Sim e h w) : Sim e h w.drew := ⟨fun id o pl a b => (s.obj id o pl a b).mono (Le.refl _) rfl, s.inj, s.low⟩
theorem St.drew {e : En} {h : H} {w : World} : St e h w e h w.drew :=
  ⟨Le.refl _, fun _ a b => (b a).elim, Nat.le_refl _, fun _ x => .inl x, fun _ _ _ => rfl, Nat.le_refl _, rfl, rfl, rfl, fun _ x => .inl x, fun _ _ _ => rfl⟩

def ext (e : En) (id : Nat) (pl : Pl) : En := fun j => if j = id then some pl else e j
theorem Le.ext {e : En} {id : Nat} {pl : Pl} (h : e id = none) : Le e (ext e id pl) := fun j p hp => by
  unfold Mx.ext
  split
  · rename_i hj; subst hj; rw [h] at hp; cases hp
  · exact hp
theorem ext_same (e : En) (id : Nat) (pl : Pl) : ext e id pl id = some pl := by simp [ext]
theorem ext_other {e : En} {id j : Nat} {pl : Pl} (h : j ≠ id) : ext e id pl j = e j := by simp [ext, h]

/-- a new row -/
theorem Sim.newF {e : En} {h : H} {w : World} (s : Sim e h w) (hf : e h.nx = none) (o : O) (C : Array Value) (t : TypeId) (fz : Nat × Nat) (hfz : o.ro = false → fz = (0, 0)) (hr : ∃ r, C.toList = r ++ C.toList.drop o.c.length ∧ RL e o.c r) :
    Sim (ext e h.nx ⟨w.heap.size, 0, C.size⟩) (h.new o) (w.alloc (.cells C t fz)) ∧ St e h w (ext e h.nx ⟨w.heap.size, 0, C.size⟩) (h.new o) (w.alloc (.cells C t fz)) := by
  have hle : Le e (ext e h.nx ⟨w.heap.size, 0, C.size⟩) := Le.ext hf
  obtain ⟨r, hC, hrl⟩ := hr
  have hlen := hrl.length
  have hCs : o.c.length ≤ C.size := by
    have := congrArg List.length hC
    simp only [List.length_append, List.length_drop, Array.length_toList] at this
    omega
  refine ⟨⟨?_, ?_, ?_⟩, ?_⟩
  · intro id o' pl hg hp
    rw [H.get_new] at hg
    by_cases hid : id = h.nx
    · subst hid
      rw [if_pos rfl] at hg
      rw [ext_same] at hp
      cases hg; cases hp
      refine ⟨C, t, fz, heap_alloc_new w _, fun hro => ⟨hfz hro, rfl⟩, by simpa using hCs, RL.mono hle _ _ ?_⟩
      have e1 : (C.toList.drop 0).take o.c.length = r := by
        rw [List.drop_zero, hC, List.take_append_of_le_length (by omega), List.take_of_length_le (by omega)]
      rw [e1]; exact hrl
    · rw [if_neg hid] at hg
      rw [ext_other hid] at hp
      have ho := s.obj id o' pl hg hp
      exact ho.mono hle (heap_alloc_old w _ _ ho.lt)
  · intro i j oi oj pi pj hij hi hro hj hpi hpj
    rw [H.get_new] at hi hj
    by_cases h1 : i = h.nx
    · subst h1
      have h2 : j ≠ h.nx := fun e => hij e.symm
      rw [if_neg h2] at hj
      rw [ext_other h2] at hpj
      rw [ext_same] at hpi
      cases hpi
      have := (s.obj j oj pj hj hpj).lt
      simp only; omega
    · rw [if_neg h1] at hi
      rw [ext_other h1] at hpi
      by_cases h2 : j = h.nx
      · subst h2
        rw [ext_same] at hpj
        cases hpj
        have := (s.obj i oi pi hi hpi).lt
        simp only; omega
      · rw [if_neg h2] at hj
        rw [ext_other h2] at hpj
        exact s.inj i j oi oj pi pj hij hi hro hj hpi hpj
  · intro id hid
    rw [H.get_new]
    simp only [H.nx_new] at hid
    rw [if_neg (by omega)]
    exact s.low id (by omega)
  · refine ⟨hle, ?_, by simp, ?_, fun b hb _ => heap_alloc_old w _ b hb, by simp, rfl, rfl, rfl, ?_, fun id hid _ => by rw [H.get_new, if_neg (by omega)]⟩
    · intro id h0 h1
      by_cases hid : id = h.nx
      · subst hid; exact ⟨Nat.le_refl _, by simp⟩
      · rw [ext_other hid] at h1; exact (h1 h0).elim
    · rintro b ⟨id, o', pl, hg, hro, hp, rfl⟩
      rw [H.get_new] at hg
      by_cases hid : id = h.nx
      · subst hid
        rw [ext_same] at hp; cases hp
        exact .inr (Nat.le_refl _)
      · rw [if_neg hid] at hg
        rw [ext_other hid] at hp
        exact .inl ⟨id, o', pl, hg, hro, hp, rfl⟩
    · rintro b ⟨id, o', pl, hg, hp, rfl⟩
      rw [H.get_new] at hg
      by_cases hid : id = h.nx
      · subst hid
        rw [ext_same] at hp; cases hp
        exact .inr (Nat.le_refl _)
      · rw [if_neg hid] at hg
        rw [ext_other hid] at hp
        exact .inl ⟨id, o', pl, hg, hp, rfl⟩

theorem Sim.new {e : En} {h : H} {w : World} (s : Sim e h w) (hf : e h.nx = none) (o : O) (C : Array Value) (t : TypeId) (hr : ∃ r, C.toList = r ++ C.toList.drop o.c.length ∧ RL e o.c r) :
    Sim (ext e h.nx ⟨w.heap.size, 0, C.size⟩) (h.new o) (w.alloc (.cells C t)) ∧ St e h w (ext e h.nx ⟨w.heap.size, 0, C.size⟩) (h.new o) (w.alloc (.cells C t)) :=
  s.newF hf o C t (0, 0) (fun _ => rfl) hr

/-- a row of one's own is written -/
theorem Sim.write {e : En} {h : H} {w : World} (s : Sim e h w) {id : Nat} {o : O} {pl : Pl} (hg : h.get id = some o) (hro : o.ro = false) (hp : e id = some pl) (c : List V)
    {C C' : Array Value} {t : TypeId} (hC : w.heap[pl.blk]? = some (.cells C t (0, 0))) (hsz : C'.size = C.size) (hlen : c.length = o.c.length) (hr : RL e c ((C'.toList.drop pl.sh).take o.c.length)) :
    Sim e (h.put id (some { o with c := c })) (w.setRow pl.blk C') ∧ St e h w e (h.put id (some { o with c := c })) (w.setRow pl.blk C') := by
  have hset := setRow_heap w pl.blk C C' t (0, 0) hC
  obtain ⟨C0, t0, fz0, g1, g2, g3, g4⟩ := s.obj id o pl hg hp
  have hC0 : C0 = C := by rw [hC] at g1; cases g1; rfl
  subst hC0
  have hid : id < h.nx := by
    refine Nat.lt_of_not_le fun hn => ?_
    rw [s.low id hn] at hg; cases hg
  refine ⟨⟨?_, ?_, ?_⟩, ?_⟩
  · intro j o' pj hj hpj
    rw [H.get_put] at hj
    by_cases hji : j = id
    · subst hji
      rw [if_pos rfl] at hj
      cases hj
      rw [hp] at hpj; cases hpj
      refine ⟨C', t, (0, 0), hset, fun _ => ⟨rfl, by rw [hsz]; exact (g2 hro).2⟩, by simp only; rw [hlen, hsz]; exact g3, ?_⟩
      simp only
      rw [hlen]; exact hr
    · rw [if_neg hji] at hj
      exact (s.obj j o' pj hj hpj).mono (Le.refl _) (setRow_other w _ _ _ (fun e => s.inj id j o o' pl pj (Ne.symm hji) hg hro hj hp hpj e.symm))
  · intro i j oi oj pi pj hij hi hri hj hpi hpj
    rw [H.get_put] at hi hj
    have hi' : ∃ oi', h.get i = some oi' ∧ oi'.ro = false := by
      by_cases x : i = id
      · subst x; exact ⟨o, hg, hro⟩
      · rw [if_neg x] at hi; exact ⟨oi, hi, hri⟩
    have hj' : ∃ oj', h.get j = some oj' := by
      by_cases x : j = id
      · subst x; exact ⟨o, hg⟩
      · rw [if_neg x] at hj; exact ⟨oj, hj⟩
    obtain ⟨oi', hi1, hi2⟩ := hi'
    obtain ⟨oj', hj1⟩ := hj'
    exact s.inj i j oi' oj' pi pj hij hi1 hi2 hj1 hpi hpj
  · intro j hj
    rw [H.get_put]
    simp only [H.nx_put] at hj
    rw [if_neg (by omega)]
    exact s.low j hj
  · refine ⟨Le.refl _, fun _ a b => (b a).elim, by simp, ?_, ?_, by simp, rfl, rfl, rfl, ?_, fun j _ h0 => by rw [H.get_put, if_neg (by rintro rfl; rw [hp] at h0; cases h0)]⟩
    · rintro b ⟨j, o', pj, hj, hro', hpj, rfl⟩
      rw [H.get_put] at hj
      by_cases hji : j = id
      · subst hji; exact .inl ⟨j, o, pj, hg, hro, hpj, rfl⟩
      · rw [if_neg hji] at hj; exact .inl ⟨j, o', pj, hj, hro', hpj, rfl⟩
    · intro b _ hn
      exact setRow_other w _ _ _ (fun e => hn ⟨id, o, pl, hg, hro, hp, e.symm⟩)
    · rintro b ⟨j, o', pj, hj, hpj, rfl⟩
      rw [H.get_put] at hj
      by_cases hji : j = id
      · subst hji; exact .inl ⟨j, o, pj, hg, hpj, rfl⟩
      · rw [if_neg hji] at hj; exact .inl ⟨j, o', pj, hj, hpj, rfl⟩

/-- a row goes -/
theorem Sim.kill {e : En} {h : H} {w : World} (s : Sim e h w) (id : Nat) (hk : e id ≠ none) : Sim e (h.kill id) w ∧ St e h w e (h.kill id) w := by
  refine ⟨⟨?_, ?_, ?_⟩, ?_⟩
  · intro j o pl hg hp
    rw [H.get_kill] at hg
    by_cases hj : j = id
    · rw [if_pos hj] at hg; cases hg
    · rw [if_neg hj] at hg; exact s.obj j o pl hg hp
  · intro i j oi oj pi pj hij hi hri hj hpi hpj
    rw [H.get_kill] at hi hj
    by_cases x : i = id
    · rw [if_pos x] at hi; cases hi
    · by_cases y : j = id
      · rw [if_pos y] at hj; cases hj
      · rw [if_neg x] at hi; rw [if_neg y] at hj; exact s.inj i j oi oj pi pj hij hi hri hj hpi hpj
  · intro j hj
    rw [H.get_kill]
    split
    · rfl
    · exact s.low j hj
  · refine ⟨Le.refl _, fun _ a b => (b a).elim, by simp, ?_, fun _ _ _ => rfl, Nat.le_refl _, rfl, rfl, rfl, ?_, fun j _ h0 => by rw [H.get_kill, if_neg (by rintro rfl; exact hk h0)]⟩
    · rintro b ⟨j, o', pj, hj, hro', hpj, rfl⟩
      rw [H.get_kill] at hj
      by_cases x : j = id
      · rw [if_pos x] at hj; cases hj
      · rw [if_neg x] at hj; exact .inl ⟨j, o', pj, hj, hro', hpj, rfl⟩
    · rintro b ⟨j, o', pj, hj, hpj, rfl⟩
      rw [H.get_kill] at hj
      by_cases x : j = id
      · rw [if_pos x] at hj; cases hj
      · rw [if_neg x] at hj; exact .inl ⟨j, o', pj, hj, hpj, rfl⟩

/-- a row that goes, and its block is a new one's, from a place on -/
theorem Sim.move {e : En} {h : H} {w : World} (s : Sim e h w) (hf : e h.nx = none) {id : Nat} {o : O} {pl : Pl} (hg : h.get id = some o) (hro : o.ro = false) (hp : e id = some pl) (c : List V) (sh : Nat)
    {C C' : Array Value} {t : TypeId} (hC : w.heap[pl.blk]? = some (.cells C t (0, 0))) (hsz : C'.size = C.size) (hb : sh + c.length ≤ C.size) (hr : RL e c ((C'.toList.drop sh).take c.length)) :
    Sim (ext e h.nx ⟨pl.blk, sh, pl.lim⟩) ((h.kill id).new { ro := false, c := c }) (w.setRow pl.blk C') ∧ St e h w (ext e h.nx ⟨pl.blk, sh, pl.lim⟩) ((h.kill id).new { ro := false, c := c }) (w.setRow pl.blk C') := by
  have hle : Le e (ext e h.nx ⟨pl.blk, sh, pl.lim⟩) := Le.ext hf
  have hset := setRow_heap w pl.blk C C' t (0, 0) hC
  obtain ⟨C0, t0, fz0, g1, g2, g3, g4⟩ := s.obj id o pl hg hp
  have hC0 : C0 = C := by rw [hC] at g1; cases g1; rfl
  subst hC0
  have hid : id < h.nx := by
    refine Nat.lt_of_not_le fun hn => ?_
    rw [s.low id hn] at hg; cases hg
  have hget : ∀ j, ((h.kill id).new { ro := false, c := c }).get j = if j = h.nx then some { ro := false, c := c } else if j = id then none else h.get j := by
    intro j; simp [H.get_new, H.get_kill]
  refine ⟨⟨?_, ?_, ?_⟩, ?_⟩
  · intro j o' pj hj hpj
    rw [hget] at hj
    by_cases h1 : j = h.nx
    · subst h1
      rw [if_pos rfl] at hj; cases hj
      rw [ext_same] at hpj; cases hpj
      exact ⟨C', t, (0, 0), hset, fun _ => ⟨rfl, by simp only; rw [hsz]; exact (g2 hro).2⟩, by simp only; rw [hsz]; exact hb, RL.mono hle _ _ hr⟩
    · rw [if_neg h1] at hj
      by_cases h2 : j = id
      · rw [if_pos h2] at hj; cases hj
      · rw [if_neg h2] at hj
        rw [ext_other h1] at hpj
        exact (s.obj j o' pj hj hpj).mono hle (setRow_other w _ _ _ (fun e => s.inj id j o o' pl pj (Ne.symm h2) hg hro hj hp hpj e.symm))
  · intro i j oi oj pi pj hij hi hri hj hpi hpj
    rw [hget] at hi hj
    by_cases h1 : i = h.nx
    · subst h1
      have h2 : j ≠ h.nx := fun e => hij e.symm
      rw [if_neg h2] at hj
      rw [ext_other h2] at hpj
      rw [ext_same] at hpi; cases hpi
      by_cases h3 : j = id
      · rw [if_pos h3] at hj; cases hj
      · rw [if_neg h3] at hj
        exact fun e => s.inj id j o oj pl pj (Ne.symm h3) hg hro hj hp hpj e
    · rw [if_neg h1] at hi
      rw [ext_other h1] at hpi
      by_cases h3 : i = id
      · rw [if_pos h3] at hi; cases hi
      · rw [if_neg h3] at hi
        by_cases h2 : j = h.nx
        · subst h2
          rw [ext_same] at hpj; cases hpj
          exact fun e => s.inj i id oi o pi pl h3 hi hri hg hpi hp e
        · rw [if_neg h2] at hj
          rw [ext_other h2] at hpj
          by_cases h4 : j = id
          · rw [if_pos h4] at hj; cases hj
          · rw [if_neg h4] at hj; exact s.inj i j oi oj pi pj hij hi hri hj hpi hpj
  · intro j hj
    rw [hget]
    simp only [H.nx_new, H.nx_kill] at hj
    rw [if_neg (by omega)]
    split
    · rfl
    · exact s.low j (by omega)
  · refine ⟨hle, ?_, by simp, ?_, ?_, by simp, rfl, rfl, rfl, ?_, fun j hj h0 => by rw [hget, if_neg (by omega), if_neg (by rintro rfl; rw [hp] at h0; cases h0)]⟩
    · intro j h0 h1
      by_cases hj : j = h.nx
      · subst hj; exact ⟨Nat.le_refl _, by simp⟩
      · rw [ext_other hj] at h1; exact (h1 h0).elim
    · rintro b ⟨j, o', pj, hj, hro', hpj, rfl⟩
      rw [hget] at hj
      by_cases h1 : j = h.nx
      · subst h1
        rw [ext_same] at hpj; cases hpj
        exact .inl ⟨id, o, pl, hg, hro, hp, rfl⟩
      · rw [if_neg h1] at hj
        rw [ext_other h1] at hpj
        by_cases h2 : j = id
        · rw [if_pos h2] at hj; cases hj
        · rw [if_neg h2] at hj; exact .inl ⟨j, o', pj, hj, hro', hpj, rfl⟩
    · intro b _ hn
      exact setRow_other w _ _ _ (fun e => hn ⟨id, o, pl, hg, hro, hp, e.symm⟩)
    · rintro b ⟨j, o', pj, hj, hpj, rfl⟩
      rw [hget] at hj
      by_cases h1 : j = h.nx
      · subst h1
        rw [ext_same] at hpj; cases hpj
        exact .inl ⟨id, o, pl, hg, hp, rfl⟩
      · rw [if_neg h1] at hj
        rw [ext_other h1] at hpj
        by_cases h2 : j = id
        · rw [if_pos h2] at hj; cases hj
        · rw [if_neg h2] at hj; exact .inl ⟨j, o', pj, hj, hpj, rfl⟩

end Mx
