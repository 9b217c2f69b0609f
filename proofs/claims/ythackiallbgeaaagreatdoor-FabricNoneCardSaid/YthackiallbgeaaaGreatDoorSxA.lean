import Derived.Test.YthackiallbgeaaaGreatDoorMxV
namespace Sx
open Go Mx
inductive Tm where
  | lit (n : Int)
  | var (i : Nat)
  | off (t : Tm) (c : Int)
  | seg (w fr : Nat) (t : Tm)
  | bin (o : BinOp) (k : IntKind) (a b : Tm)
  deriving Inhabited
def numI (v : Option V) : Int := match v with
  | some (.i _ n) => n
  | _ => 0
def binT (o : BinOp) (k : IntKind) (a b : Int) : Int := match o with
  | .shr => a.fdiv (2 ^ (min b.toNat k.bits))
  | o => numI (binI o k a b)
def Tm.ev (σ : Nat → Int) : Tm → Int
  | .lit n => n
  | .var i => σ i
  | .off t c => t.ev σ + c
  | .seg w fr t => ((t.ev σ / ((2 ^ fr : Nat) : Int)) % ((2 ^ w : Nat) : Int))
  | .bin o k a b => binT o k (a.ev σ) (b.ev σ)
def ieq (a b : Int) : Bool := match a, b with
  | .ofNat a, .ofNat b => Nat.beq a b
  | .negSucc a, .negSucc b => Nat.beq a b
  | _, _ => false
def ile (a b : Int) : Bool := match a, b with
  | .ofNat a, .ofNat b => Nat.ble a b
  | .negSucc a, .negSucc b => Nat.ble b a
  | .negSucc _, .ofNat _ => true
  | .ofNat _, .negSucc _ => false
def ilt (a b : Int) : Bool := !(ile b a)
def Tm.beq : Tm → Tm → Bool
  | .lit a, .lit b => ieq a b
  | .var a, .var b => Nat.beq a b
  | .off t c, .off u d => ieq c d && Tm.beq t u
  | .seg w f t, .seg x g u => Nat.beq w x && Nat.beq f g && Tm.beq t u
  | .bin o k a b, .bin p l c d => (o == p) && (k == l) && Tm.beq a c && Tm.beq b d
  | _, _ => false
abbrev Sg := Nat × Nat × Nat × Tm
inductive SX where
  | lit (n : Int)
  | tm (t : Tm)
  | sg (b : Nat) (l : List Sg)
  deriving Inhabited
def sgv (σ : Nat → Int) : List Sg → Nat
  | [] => 0
  | g :: l => (((g.2.2.2.ev σ / ((2 ^ g.2.2.1 : Nat) : Int)) % ((2 ^ g.2.1 : Nat) : Int)).toNat <<< g.1) ||| sgv σ l
def SX.ev (σ : Nat → Int) : SX → Int
  | .lit n => n
  | .tm t => t.ev σ
  | .sg b l => ((b ||| sgv σ l : Nat) : Int)
def sgBeq : List Sg → List Sg → Bool
  | [], [] => true
  | a :: l, b :: r => Nat.beq a.1 b.1 && Nat.beq a.2.1 b.2.1 && Nat.beq a.2.2.1 b.2.2.1 && Tm.beq a.2.2.2 b.2.2.2 && sgBeq l r
  | _, _ => false
def SX.beq : SX → SX → Bool
  | .lit a, .lit b => ieq a b
  | .tm a, .tm b => Tm.beq a b
  | .sg a l, .sg b r => Nat.beq a b && sgBeq l r
  | _, _ => false
inductive At where
  | eq (a b : SX)
  | lt (a b : SX)
  | le (a b : SX)
  deriving Inhabited
def At.ev (σ : Nat → Int) : At → Bool
  | .eq a b => a.ev σ == b.ev σ
  | .lt a b => decide (a.ev σ < b.ev σ)
  | .le a b => decide (a.ev σ ≤ b.ev σ)
def At.beq : At → At → Bool
  | .eq a b, .eq c d => SX.beq a c && SX.beq b d
  | .lt a b, .lt c d => SX.beq a c && SX.beq b d
  | .le a b, .le c d => SX.beq a c && SX.beq b d
  | _, _ => false
abbrev PC := List (At × Bool)
def Sat (σ : Nat → Int) : PC → Prop
  | [] => True
  | f :: l => f.1.ev σ = f.2 ∧ Sat σ l
def fLo (t : Tm) (f : At × Bool) : Option Int :=
  match f.1, f.2 with
  | .le (.lit n) (.tm u), true => if Tm.beq t u then some n else none
  | .lt (.lit n) (.tm u), true => if Tm.beq t u then some (n + 1) else none
  | .lt (.tm u) (.lit n), false => if Tm.beq t u then some n else none
  | .le (.tm u) (.lit n), false => if Tm.beq t u then some (n + 1) else none
  | .eq (.tm u) (.lit n), true => if Tm.beq t u then some n else none
  | .eq (.lit n) (.tm u), true => if Tm.beq t u then some n else none
  | _, _ => none
def fHi (t : Tm) (f : At × Bool) : Option Int :=
  match f.1, f.2 with
  | .le (.tm u) (.lit n), true => if Tm.beq t u then some n else none
  | .lt (.tm u) (.lit n), true => if Tm.beq t u then some (n - 1) else none
  | .lt (.lit n) (.tm u), false => if Tm.beq t u then some n else none
  | .le (.lit n) (.tm u), false => if Tm.beq t u then some (n - 1) else none
  | .eq (.tm u) (.lit n), true => if Tm.beq t u then some n else none
  | .eq (.lit n) (.tm u), true => if Tm.beq t u then some n else none
  | _, _ => none
def oMax (a b : Option Int) : Option Int := match a, b with
  | some x, some y => if ile x y then some y else some x
  | some x, none => some x
  | none, y => y
def oMin (a b : Option Int) : Option Int := match a, b with
  | some x, some y => if ile x y then some x else some y
  | some x, none => some x
  | none, y => y
def fsLo (t : Tm) : PC → Option Int
  | [] => none
  | f :: l => oMax (fLo t f) (fsLo t l)
def fsHi (t : Tm) : PC → Option Int
  | [] => none
  | f :: l => oMin (fHi t f) (fsHi t l)
def fNe (t : Tm) (n : Int) (f : At × Bool) : Bool :=
  match f.1, f.2 with
  | .eq (.tm u) (.lit m), false => ieq m n && Tm.beq t u
  | _, _ => false
def upLo (t : Tm) (pc : PC) : Nat → Int → Int
  | 0, n => n
  | k + 1, n => if pc.any (fNe t n) then upLo t pc k (n + 1) else n
def dnHi (t : Tm) (pc : PC) : Nat → Int → Int
  | 0, n => n
  | k + 1, n => if pc.any (fNe t n) then dnHi t pc k (n - 1) else n
def oAdd (a : Option Int) (c : Int) : Option Int := match a with
  | some x => some (x + c)
  | none => none
abbrev Rg := Option Int × Option Int
def fin (pc : PC) (t : Tm) (r : Rg) : Rg :=
  (match oMax r.1 (fsLo t pc) with
    | some n => some (upLo t pc 70 n)
    | none => none,
   match oMin r.2 (fsHi t pc) with
    | some n => some (dnHi t pc 70 n)
    | none => none)
def kRg (k : IntKind) : Rg := (some k.min, some k.max)
def binRg (o : BinOp) (k : IntKind) (a b : Rg) : Rg :=
  match o with
  | .add => match a, b with
    | (some la, some ha), (some lb, some hb) => if ile k.min (la + lb) && ile (ha + hb) k.max then (some (la + lb), some (ha + hb)) else kRg k
    | _, _ => kRg k
  | .rem => match a, b with
    | (some la, _), (some lb, some hb) => if ile 0 la && ieq lb hb && ilt 0 lb then (some 0, some (lb - 1)) else (none, none)
    | _, _ => (none, none)
  | .quo => match a, b with
    | (some la, some ha), (some lb, some hb) => if ile 0 la && ieq lb hb && ilt 0 lb && ile ha k.max then (some (la / lb), some (ha / lb)) else kRg k
    | _, _ => kRg k
  | .shr => (none, none)
  | _ => kRg k
def rg (pc : PC) : Tm → Rg
  | .lit n => (some n, some n)
  | .var i => fin pc (.var i) (none, none)
  | .off t c => (oAdd (rg pc t).1 c, oAdd (rg pc t).2 c)
  | .seg w fr t => fin pc (.seg w fr t) (some 0, some (((2 ^ w : Nat) : Int) - 1))
  | .bin o k a b => fin pc (.bin o k a b) (binRg o k (rg pc a) (rg pc b))
theorem ieq_eq {a b : Int} : ieq a b = true ↔ a = b := by
  cases a <;> cases b <;> simp only [ieq, Nat.beq_eq, Int.ofNat.injEq, Int.negSucc.injEq, reduceCtorEq, Bool.false_eq_true]
theorem ile_eq {a b : Int} : ile a b = true ↔ a ≤ b := by
  cases a <;> cases b <;> simp only [ile, Nat.ble_eq, Int.ofNat_eq_natCast, true_iff, Bool.false_eq_true, false_iff] <;> omega
theorem ilt_eq {a b : Int} : ilt a b = true ↔ a < b := by
  unfold ilt
  cases h : ile b a with
  | true => have := ile_eq.1 h; simp; omega
  | false =>
    have : ¬ b ≤ a := fun e => by rw [ile_eq.2 e] at h; cases h
    simp; omega
theorem Tm.beq_eq : ∀ {a b : Tm}, Tm.beq a b = true → a = b
  | .lit a, b, h => by cases b <;> simp [Tm.beq, ieq_eq] at h; rw [h]
  | .var a, b, h => by cases b <;> simp [Tm.beq] at h; rw [h]
  | .off t c, b, h => by
    cases b <;> simp [Tm.beq, ieq_eq] at h
    rw [h.1, Tm.beq_eq h.2]
  | .seg w f t, b, h => by
    cases b <;> simp [Tm.beq] at h
    rw [h.1.1, h.1.2, Tm.beq_eq h.2]
  | .bin o k x y, b, h => by
    cases b <;> simp [Tm.beq] at h
    rw [h.1.1.1, h.1.1.2, Tm.beq_eq h.1.2, Tm.beq_eq h.2]
theorem sgBeq_eq : ∀ {a b : List Sg}, sgBeq a b = true → a = b
  | [], [], _ => rfl
  | [], _ :: _, h => by simp [sgBeq] at h
  | _ :: _, [], h => by simp [sgBeq] at h
  | ⟨a, b, c, d⟩ :: l, ⟨a', b', c', d'⟩ :: r, h => by
    simp only [sgBeq, Bool.and_eq_true] at h
    obtain ⟨⟨⟨⟨h1, h2⟩, h3⟩, h4⟩, h5⟩ := h
    rw [Nat.eq_of_beq_eq_true h1, Nat.eq_of_beq_eq_true h2, Nat.eq_of_beq_eq_true h3, Tm.beq_eq h4, sgBeq_eq h5]
theorem SX.beq_eq {a b : SX} (h : SX.beq a b = true) : a = b := by
  cases a <;> cases b <;> simp [SX.beq, ieq_eq] at h
  · rw [h]
  · rw [Tm.beq_eq h]
  · rw [h.1, sgBeq_eq h.2]
theorem At.beq_eq {a b : At} (h : At.beq a b = true) : a = b := by
  cases a <;> cases b <;> simp [At.beq] at h <;> rw [SX.beq_eq h.1, SX.beq_eq h.2]
def InR (r : Rg) (n : Int) : Prop := (∀ m, r.1 = some m → m ≤ n) ∧ (∀ m, r.2 = some m → n ≤ m)
section
variable {σ : Nat → Int} {pc : PC}
theorem fLo_le {t : Tm} {f : At × Bool} {n : Int} (h : fLo t f = some n) (hf : f.1.ev σ = f.2) : n ≤ t.ev σ := by
  obtain ⟨a, b⟩ := f
  unfold fLo at h
  split at h <;> try (cases h; done)
  all_goals (
    rename_i h1 h2
    simp only at h1 h2 hf
    subst h1; subst h2
    split at h
    · rename_i hb
      cases h
      have hb := Tm.beq_eq hb
      subst hb
      simp only [At.ev, decide_eq_true_eq, decide_eq_false_iff_not, beq_iff_eq] at hf
      simp only [SX.ev] at hf
      omega
    · cases h)
theorem fHi_le {t : Tm} {f : At × Bool} {n : Int} (h : fHi t f = some n) (hf : f.1.ev σ = f.2) : t.ev σ ≤ n := by
  obtain ⟨a, b⟩ := f
  unfold fHi at h
  split at h <;> try (cases h; done)
  all_goals (
    rename_i h1 h2
    simp only at h1 h2 hf
    subst h1; subst h2
    split at h
    · rename_i hb
      cases h
      have hb := Tm.beq_eq hb
      subst hb
      simp only [At.ev, decide_eq_true_eq, decide_eq_false_iff_not, beq_iff_eq] at hf
      simp only [SX.ev] at hf
      omega
    · cases h)
theorem oMax_le {a b : Option Int} {x : Int} (ha : ∀ m, a = some m → m ≤ x) (hb : ∀ m, b = some m → m ≤ x) : ∀ m, oMax a b = some m → m ≤ x := by
  intro m h
  unfold oMax at h
  split at h
  · split at h <;> cases h
    · exact hb _ rfl
    · exact ha _ rfl
  · cases h; exact ha _ rfl
  · exact hb _ h
theorem oMin_le {a b : Option Int} {x : Int} (ha : ∀ m, a = some m → x ≤ m) (hb : ∀ m, b = some m → x ≤ m) : ∀ m, oMin a b = some m → x ≤ m := by
  intro m h
  unfold oMin at h
  split at h
  · split at h <;> cases h
    · exact ha _ rfl
    · exact hb _ rfl
  · cases h; exact ha _ rfl
  · exact hb _ h
theorem fsLo_le {t : Tm} : ∀ {pc : PC}, Sat σ pc → ∀ m, fsLo t pc = some m → m ≤ t.ev σ
  | [], _, m, h => by cases h
  | f :: l, hs, m, h => oMax_le (fun m h => fLo_le h hs.1) (fun m h => fsLo_le hs.2 m h) m h
theorem fsHi_le {t : Tm} : ∀ {pc : PC}, Sat σ pc → ∀ m, fsHi t pc = some m → t.ev σ ≤ m
  | [], _, m, h => by cases h
  | f :: l, hs, m, h => oMin_le (fun m h => fHi_le h hs.1) (fun m h => fsHi_le hs.2 m h) m h
theorem Sat.mem : ∀ {pc : PC}, Sat σ pc → ∀ {f : At × Bool}, f ∈ pc → f.1.ev σ = f.2
  | [], _, _, h => by cases h
  | g :: l, hs, f, h => by
    cases h with
    | head => exact hs.1
    | tail _ h => exact Sat.mem hs.2 h
theorem ne_of_any {t : Tm} {n : Int} (hs : Sat σ pc) (h : pc.any (fNe t n) = true) : t.ev σ ≠ n := by
  rw [List.any_eq_true] at h
  obtain ⟨⟨a, b⟩, hm, h⟩ := h
  have hf := hs.mem hm
  unfold fNe at h
  split at h
  · rename_i h1 h2
    simp only at h1 h2 hf
    subst h1; subst h2
    simp only [Bool.and_eq_true, ieq_eq] at h
    rw [← Tm.beq_eq h.2, h.1] at hf
    simpa [At.ev, SX.ev] using hf
  · cases h
theorem upLo_le {t : Tm} (hs : Sat σ pc) : ∀ (k : Nat) (n : Int), n ≤ t.ev σ → upLo t pc k n ≤ t.ev σ
  | 0, n, h => h
  | k + 1, n, h => by
    unfold upLo
    split
    · rename_i ha
      have := ne_of_any hs ha
      exact upLo_le hs k (n + 1) (by omega)
    · exact h
theorem dnHi_le {t : Tm} (hs : Sat σ pc) : ∀ (k : Nat) (n : Int), t.ev σ ≤ n → t.ev σ ≤ dnHi t pc k n
  | 0, n, h => h
  | k + 1, n, h => by
    unfold dnHi
    split
    · rename_i ha
      have := ne_of_any hs ha
      exact dnHi_le hs k (n - 1) (by omega)
    · exact h
theorem fin_in {t : Tm} {r : Rg} (hs : Sat σ pc) (h : InR r (t.ev σ)) : InR (fin pc t r) (t.ev σ) := by
  constructor
  · intro m hm
    simp only [fin] at hm
    split at hm
    · rename_i n hn
      cases hm
      exact upLo_le hs _ _ (oMax_le h.1 (fsLo_le hs) _ hn)
    · cases hm
  · intro m hm
    simp only [fin] at hm
    split at hm
    · rename_i n hn
      cases hm
      exact dnHi_le hs _ _ (oMin_le h.2 (fsHi_le hs) _ hn)
    · cases hm
theorem none_in (n : Int) : InR (none, none) n := ⟨fun m h => by simp at h, fun m h => by simp at h⟩
theorem wrap_in (k : IntKind) (n : Int) : InR (kRg k) (k.wrap n) := by
  cases k <;> simp [InR, kRg, IntKind.wrap, IntKind.min, IntKind.max, IntKind.bits, IntKind.signed] <;> omega
theorem zero_in (k : IntKind) : InR (kRg k) 0 := by
  cases k <;> simp [InR, kRg, IntKind.min, IntKind.max, IntKind.bits, IntKind.signed]
theorem binI_in (o : BinOp) (k : IntKind) (a b : Int) (ho : o ≠ .rem) : InR (kRg k) (numI (binI o k a b)) := by
  cases o <;> first
    | exact (ho rfl).elim
    | exact wrap_in k _
    | exact zero_in k
    | (simp only [binI]
       split
       · exact zero_in k
       · exact wrap_in k _)
theorem wrap_id {k : IntKind} {n : Int} (h1 : k.min ≤ n) (h2 : n ≤ k.max) : k.wrap n = n := by
  cases k <;> simp [IntKind.wrap, IntKind.min, IntKind.max, IntKind.bits, IntKind.signed] at h1 h2 ⊢ <;> omega
theorem binT_in (o : BinOp) (k : IntKind) (a b : Int) (ho : o ≠ .rem) (h2 : o ≠ .shr) : InR (kRg k) (binT o k a b) := by
  have e : binT o k a b = numI (binI o k a b) := by
    unfold binT
    split
    · exact (h2 rfl).elim
    · rfl
  rw [e]
  exact binI_in o k a b ho
theorem binRg_in {o : BinOp} {k : IntKind} {x y : Int} {a b : Rg} (ha : InR a x) (hb : InR b y) : InR (binRg o k a b) (binT o k x y) := by
  unfold binRg
  split
  · split
    · rename_i la ha' lb hb'
      split
      · rename_i hc
        simp only [Bool.and_eq_true, ile_eq] at hc
        have h1 := ha.1 _ rfl
        have h2 := ha.2 _ rfl
        have h3 := hb.1 _ rfl
        have h4 := hb.2 _ rfl
        simp only [binT, binI, numI]
        rw [wrap_id (by omega) (by omega)]
        exact ⟨fun m hm => by cases hm; omega, fun m hm => by cases hm; omega⟩
      · exact binT_in _ _ _ _ (by simp) (by simp)
    · exact binT_in _ _ _ _ (by simp) (by simp)
  · split
    · rename_i la _ lb hb'
      split
      · rename_i hc
        simp only [Bool.and_eq_true, ile_eq, ieq_eq, ilt_eq] at hc
        obtain ⟨⟨c1, c2⟩, c3⟩ := hc
        have h1 := ha.1 _ rfl
        have h3 := hb.1 _ rfl
        have h4 := hb.2 _ rfl
        have hy : y = lb := by omega
        have hx : 0 ≤ x := by omega
        simp only [binT, binI, if_neg (show ¬ y = 0 by omega), numI]
        have e1 := Int.tmod_eq_emod_of_nonneg hx (b := y)
        have e2 := Int.emod_nonneg x (show y ≠ 0 by omega)
        have e3 := Int.emod_lt_of_pos x (show 0 < y by omega)
        rw [e1]
        exact ⟨fun m hm => by cases hm; omega, fun m hm => by cases hm; omega⟩
      · exact none_in _
    · exact none_in _
  · split
    · rename_i la ha' lb hb'
      split
      · rename_i hc
        simp only [Bool.and_eq_true, ile_eq, ieq_eq, ilt_eq] at hc
        obtain ⟨⟨⟨c1, c2⟩, c3⟩, c4⟩ := hc
        have h1 := ha.1 _ rfl
        have h2 := ha.2 _ rfl
        have h3 := hb.1 _ rfl
        have h4 := hb.2 _ rfl
        have hy : lb = y := by omega
        have hx : 0 ≤ x := by omega
        subst hy
        have h0 := (zero_in k).1 _ rfl
        have q0 := Int.ediv_nonneg hx (Int.le_of_lt c3)
        have q1 := Int.ediv_le_ediv c3 h1
        have q2 := Int.ediv_le_ediv c3 h2
        have q3 := Int.ediv_le_self lb hx
        simp only [binT, binI, if_neg (show ¬ lb = 0 by omega), numI]
        rw [Int.tdiv_eq_ediv_of_nonneg hx, wrap_id (by omega) (by omega)]
        exact ⟨fun m hm => by cases hm; exact q1, fun m hm => by cases hm; exact q2⟩
      · exact binT_in _ _ _ _ (by simp) (by simp)
    · exact binT_in _ _ _ _ (by simp) (by simp)
  · exact none_in _
  · rename_i h1 h2 h3 h4
    exact binT_in _ _ _ _ h2 h4
theorem rg_in (hs : Sat σ pc) : ∀ t : Tm, InR (rg pc t) (t.ev σ)
  | .lit n => ⟨fun m h => by simp [rg] at h; simp [Tm.ev, h], fun m h => by simp [rg] at h; simp [Tm.ev, h]⟩
  | .var i => fin_in hs (none_in _)
  | .off t c => by
    have ih := rg_in hs t
    constructor
    · intro m h
      simp only [rg] at h
      cases h1 : (rg pc t).1 with
      | none => rw [h1] at h; cases h
      | some x => rw [h1] at h; cases h; have := ih.1 _ h1; simp only [Tm.ev]; omega
    · intro m h
      simp only [rg] at h
      cases h1 : (rg pc t).2 with
      | none => rw [h1] at h; cases h
      | some x => rw [h1] at h; cases h; have := ih.2 _ h1; simp only [Tm.ev]; omega
  | .seg w fr t => by
    refine fin_in hs ?_
    have hp : (0 : Int) < ((2 ^ w : Nat) : Int) := by exact_mod_cast Nat.two_pow_pos w
    have h1 := Int.emod_nonneg (t.ev σ / ((2 ^ fr : Nat) : Int)) (show ((2 ^ w : Nat) : Int) ≠ 0 by omega)
    have h2 := Int.emod_lt_of_pos (t.ev σ / ((2 ^ fr : Nat) : Int)) hp
    exact ⟨fun m h => by cases h; exact h1, fun m h => by cases h; simp only [Tm.ev]; omega⟩
  | .bin o k a b => fin_in hs (binRg_in (rg_in hs a) (rg_in hs b))
end
end Sx
