import Derived.Test.YthackiallbgeaaaGreatDoorSxB
namespace Sx
open Go Mx
def gv (σ : Nat → Int) (g : Sg) : Nat := (((g.2.2.2.ev σ / ((2 ^ g.2.2.1 : Nat) : Int)) % ((2 ^ g.2.1 : Nat) : Int)).toNat <<< g.1)
abbrev SgB := Nat × List Sg
def SgB.ev (σ : Nat → Int) (x : SgB) : Nat := x.1 ||| sgv σ x.2
def andG (m : Nat) : List Sg → Option (List Sg)
  | [] => some []
  | g :: l => match andG m l with
    | none => none
    | some r =>
      let c := (m >>> g.1) % 2 ^ g.2.1
      let j := Nat.log2 (c + 1)
      if Nat.beq (2 ^ j) (c + 1) && Nat.ble j g.2.1 then (if Nat.beq j 0 then some r else some ((g.1, j, g.2.2.1, g.2.2.2) :: r)) else none
def andB (m : Nat) (x : SgB) : Option SgB := match andG m x.2 with
  | some l => some (x.1 &&& m, l)
  | none => none
def shlG (s : Nat) : List Sg → List Sg
  | [] => []
  | g :: l => (g.1 + s, g.2) :: shlG s l
def shlB (s : Nat) (x : SgB) : SgB := (x.1 <<< s, shlG s x.2)
def shrG (s : Nat) : List Sg → List Sg
  | [] => []
  | g :: l => if Nat.ble s g.1 then (g.1 - s, g.2) :: shrG s l
    else if Nat.ble g.2.1 (s - g.1) then shrG s l
    else (0, g.2.1 - (s - g.1), g.2.2.1 + (s - g.1), g.2.2.2) :: shrG s l
def shrB (s : Nat) (x : SgB) : SgB := (x.1 >>> s, shrG s x.2)
def insG (g : Sg) : List Sg → List Sg
  | [] => [g]
  | f :: l => if Nat.ble g.1 f.1 then g :: f :: l else f :: insG g l
def orG : List Sg → List Sg → List Sg
  | [], r => r
  | g :: l, r => insG g (orG l r)
def orB (x y : SgB) : SgB := (x.1 ||| y.1, orG x.2 y.2)
def topG : List Sg → Nat
  | [] => 0
  | g :: l => Nat.max (g.1 + g.2.1) (topG l)
def bitsN (n : Nat) : Nat := if Nat.beq n 0 then 0 else Nat.log2 n + 1
def topB (x : SgB) : Nat := Nat.max (bitsN x.1) (topG x.2)
section
variable {σ : Nat → Int} {pc : PC}
theorem sgv_cons (g : Sg) (l : List Sg) : sgv σ (g :: l) = gv σ g ||| sgv σ l := rfl
theorem fld_lt (A : Int) (w : Nat) : (A % ((2 ^ w : Nat) : Int)).toNat < 2 ^ w := by
  have hp : (0 : Int) < ((2 ^ w : Nat) : Int) := by exact_mod_cast Nat.two_pow_pos w
  have h1 := Int.emod_nonneg A (show ((2 ^ w : Nat) : Int) ≠ 0 by omega)
  have h2 := Int.emod_lt_of_pos A hp
  omega
theorem fld_mod (A : Int) {w j : Nat} (h : j ≤ w) : (A % ((2 ^ w : Nat) : Int)).toNat % 2 ^ j = (A % ((2 ^ j : Nat) : Int)).toNat := by
  have hp : (0 : Int) < ((2 ^ w : Nat) : Int) := by exact_mod_cast Nat.two_pow_pos w
  have hq : (0 : Int) < ((2 ^ j : Nat) : Int) := by exact_mod_cast Nat.two_pow_pos j
  have h1 := Int.emod_nonneg A (show ((2 ^ w : Nat) : Int) ≠ 0 by omega)
  have h2 := Int.emod_nonneg A (show ((2 ^ j : Nat) : Int) ≠ 0 by omega)
  have hd : ((2 ^ j : Nat) : Int) ∣ ((2 ^ w : Nat) : Int) := by exact_mod_cast Nat.pow_dvd_pow 2 h
  have := Int.emod_emod_of_dvd A hd
  have e : ((((A % ((2 ^ w : Nat) : Int)).toNat % 2 ^ j : Nat)) : Int) = (((A % ((2 ^ j : Nat) : Int)).toNat : Nat) : Int) := by
    rw [Int.natCast_emod, Int.toNat_of_nonneg h1, Int.toNat_of_nonneg h2, this]
  exact_mod_cast e
theorem fld_shr (A : Int) {w d : Nat} (h : d ≤ w) : (A % ((2 ^ w : Nat) : Int)).toNat >>> d = ((A / ((2 ^ d : Nat) : Int)) % ((2 ^ (w - d) : Nat) : Int)).toNat := by
  have hp : (0 : Int) < ((2 ^ w : Nat) : Int) := by exact_mod_cast Nat.two_pow_pos w
  have hq : (0 : Int) < ((2 ^ d : Nat) : Int) := by exact_mod_cast Nat.two_pow_pos d
  have hr : (0 : Int) < ((2 ^ (w - d) : Nat) : Int) := by exact_mod_cast Nat.two_pow_pos (w - d)
  have h1 := Int.emod_nonneg A (show ((2 ^ w : Nat) : Int) ≠ 0 by omega)
  have h1' := Int.emod_lt_of_pos A hp
  have h2 := Int.emod_nonneg (A / ((2 ^ d : Nat) : Int)) (show ((2 ^ (w - d) : Nat) : Int) ≠ 0 by omega)
  have hw : ((2 ^ w : Nat) : Int) = ((2 ^ (w - d) : Nat) : Int) * ((2 ^ d : Nat) : Int) := by
    rw [← Int.natCast_mul, ← Nat.pow_add, Nat.sub_add_cancel h]
  have hA : A = ((2 ^ w : Nat) : Int) * (A / ((2 ^ w : Nat) : Int)) + A % ((2 ^ w : Nat) : Int) := (Int.mul_ediv_add_emod _ _).symm
  have hdiv : A / ((2 ^ d : Nat) : Int) = (A % ((2 ^ w : Nat) : Int)) / ((2 ^ d : Nat) : Int) + ((2 ^ (w - d) : Nat) : Int) * (A / ((2 ^ w : Nat) : Int)) := by
    conv => lhs; rw [hA]
    rw [hw, Int.mul_right_comm, Int.add_comm, Int.add_mul_ediv_right _ _ (by omega)]
  have hlt : (A % ((2 ^ w : Nat) : Int)) / ((2 ^ d : Nat) : Int) < ((2 ^ (w - d) : Nat) : Int) := Int.ediv_lt_of_lt_mul hq (by rw [← hw]; exact h1')
  have hnn : 0 ≤ (A % ((2 ^ w : Nat) : Int)) / ((2 ^ d : Nat) : Int) := Int.ediv_nonneg h1 (by omega)
  have e : (((A % ((2 ^ w : Nat) : Int)).toNat >>> d : Nat) : Int) = ((((A / ((2 ^ d : Nat) : Int)) % ((2 ^ (w - d) : Nat) : Int)).toNat : Nat) : Int) := by
    rw [Nat.shiftRight_eq_div_pow, Int.natCast_ediv, Int.toNat_of_nonneg h1, Int.toNat_of_nonneg h2, hdiv, Int.add_mul_emod_self_left, Int.emod_eq_of_lt hnn hlt]
  exact_mod_cast e
theorem gv_and {g : Sg} {m j : Nat} (h : (m >>> g.1) % 2 ^ g.2.1 = 2 ^ j - 1) (hj : j ≤ g.2.1) : gv σ g &&& m = gv σ (g.1, j, g.2.2.1, g.2.2.2) := by
  unfold gv
  simp only
  rw [← fld_mod _ hj]
  have hlt := fld_lt (g.2.2.2.ev σ / ((2 ^ g.2.2.1 : Nat) : Int)) g.2.1
  generalize (((g.2.2.2.ev σ / ((2 ^ g.2.2.1 : Nat) : Int)) % ((2 ^ g.2.1 : Nat) : Int)).toNat) = N at hlt ⊢
  apply Nat.eq_of_testBit_eq
  intro n
  simp only [Nat.testBit_and, Nat.testBit_shiftLeft, Nat.testBit_mod_two_pow]
  by_cases hn : g.1 ≤ n
  · have hm : m.testBit n = (m >>> g.1).testBit (n - g.1) := by rw [Nat.testBit_shiftRight]; congr 1; omega
    simp only [ge_iff_le, hn, decide_true, Bool.true_and]
    by_cases hp : n - g.1 < g.2.1
    · have h3 : ((m >>> g.1) % 2 ^ g.2.1).testBit (n - g.1) = (m >>> g.1).testBit (n - g.1) := by rw [Nat.testBit_mod_two_pow]; simp [hp]
      rw [hm, ← h3, h, Nat.testBit_two_pow_sub_one, Bool.and_comm]
    · have hN : N.testBit (n - g.1) = false := Nat.testBit_lt_two_pow (Nat.lt_of_lt_of_le hlt (Nat.pow_le_pow_right (by omega) (by omega)))
      rw [hN]; simp
  · simp [hn]
theorem gv_zero {g : Sg} (h : g.2.1 = 0) : gv σ g = 0 := by
  have := fld_lt (g.2.2.2.ev σ / ((2 ^ g.2.2.1 : Nat) : Int)) g.2.1
  unfold gv
  rw [h] at this ⊢
  have e : ((g.2.2.2.ev σ / ((2 ^ g.2.2.1 : Nat) : Int)) % ((2 ^ 0 : Nat) : Int)).toNat = 0 := by omega
  rw [e]; simp
theorem andG_ok {m : Nat} : ∀ {l r : List Sg}, andG m l = some r → sgv σ l &&& m = sgv σ r
  | [], r, h => by simp only [andG] at h; cases h; simp [sgv]
  | g :: l, r, h => by
    simp only [andG] at h
    split at h
    · cases h
    · rename_i r' hr'
      have ih := andG_ok hr'
      split at h
      · rename_i hc
        simp only [Bool.and_eq_true] at hc
        have h1 := Nat.eq_of_beq_eq_true hc.1
        have hp : (m >>> g.1) % 2 ^ g.2.1 = 2 ^ (Nat.log2 ((m >>> g.1) % 2 ^ g.2.1 + 1)) - 1 := by omega
        have hg := gv_and (σ := σ) hp (Nat.le_of_ble_eq_true hc.2)
        rw [sgv_cons, Nat.and_or_distrib_right, ih, hg]
        split at h
        · rename_i h0
          cases h
          rw [gv_zero (Nat.eq_of_beq_eq_true h0)]; simp
        · cases h; rfl
      · cases h
theorem andB_ok {m : Nat} {x y : SgB} (h : andB m x = some y) : x.ev σ &&& m = y.ev σ := by
  unfold andB at h
  split at h
  · rename_i l hl
    cases h
    simp only [SgB.ev]
    rw [Nat.and_or_distrib_right, andG_ok hl]
  · cases h
theorem shlG_ok {s : Nat} : ∀ {l : List Sg}, sgv σ (shlG s l) = sgv σ l <<< s
  | [] => by simp [shlG, sgv]
  | g :: l => by
    simp only [shlG]
    rw [sgv_cons, sgv_cons, Nat.shiftLeft_or_distrib, shlG_ok]
    congr 1
    simp only [gv]
    rw [Nat.shiftLeft_add]
theorem shlB_ok {s : Nat} {x : SgB} : (shlB s x).ev σ = x.ev σ <<< s := by
  simp only [SgB.ev, shlB]
  rw [shlG_ok, Nat.shiftLeft_or_distrib]
theorem shrG_ok {s : Nat} : ∀ {l : List Sg}, sgv σ (shrG s l) = sgv σ l >>> s
  | [] => by simp [shrG, sgv]
  | g :: l => by
    have ih := shrG_ok (s := s) (l := l)
    rw [sgv_cons, Nat.shiftRight_or_distrib, ← ih]
    simp only [shrG]
    by_cases h1 : s ≤ g.1
    · rw [if_pos (Nat.ble_eq_true_of_le h1), sgv_cons]
      congr 1
      simp only [gv]
      conv => rhs; rw [show g.1 = (g.1 - s) + s by omega, Nat.shiftLeft_add, Nat.shiftLeft_shiftRight]
    · have h2 : ¬ (Nat.ble s g.1 = true) := fun e => h1 (by simpa using e)
      rw [if_neg h2]
      have e1 : gv σ g >>> s = (((g.2.2.2.ev σ / ((2 ^ g.2.2.1 : Nat) : Int)) % ((2 ^ g.2.1 : Nat) : Int)).toNat) >>> (s - g.1) := by
        simp only [gv]
        conv => lhs; rw [show s = g.1 + (s - g.1) by omega, Nat.shiftRight_add, Nat.shiftLeft_shiftRight]
      rw [e1]
      by_cases h3 : g.2.1 ≤ s - g.1
      · rw [if_pos (Nat.ble_eq_true_of_le h3)]
        have hlt := fld_lt (g.2.2.2.ev σ / ((2 ^ g.2.2.1 : Nat) : Int)) g.2.1
        have : (((g.2.2.2.ev σ / ((2 ^ g.2.2.1 : Nat) : Int)) % ((2 ^ g.2.1 : Nat) : Int)).toNat) >>> (s - g.1) = 0 := by
          rw [Nat.shiftRight_eq_div_pow]
          exact Nat.div_eq_of_lt (Nat.lt_of_lt_of_le hlt (Nat.pow_le_pow_right (by omega) h3))
        rw [this]; simp
      · have h4 : ¬ (Nat.ble g.2.1 (s - g.1) = true) := fun e => h3 (by simpa using e)
        rw [if_neg h4, sgv_cons, fld_shr _ (by omega)]
        congr 1
        simp only [gv, Nat.shiftLeft_zero]
        rw [Int.ediv_ediv_of_nonneg (Int.natCast_nonneg _), ← Int.natCast_mul, ← Nat.pow_add]
theorem shrB_ok {s : Nat} {x : SgB} : (shrB s x).ev σ = x.ev σ >>> s := by
  simp only [SgB.ev, shrB]
  rw [shrG_ok, Nat.shiftRight_or_distrib]
theorem insG_ok {g : Sg} : ∀ {l : List Sg}, sgv σ (insG g l) = gv σ g ||| sgv σ l
  | [] => rfl
  | f :: l => by
    simp only [insG]
    split
    · rfl
    · rw [sgv_cons, sgv_cons, insG_ok, ← Nat.or_assoc, ← Nat.or_assoc, Nat.or_comm (gv σ f)]
theorem orG_ok : ∀ {l r : List Sg}, sgv σ (orG l r) = sgv σ l ||| sgv σ r
  | [], r => by simp [orG, sgv]
  | g :: l, r => by rw [orG, insG_ok, orG_ok, sgv_cons, Nat.or_assoc]
theorem orB_ok {x y : SgB} : (orB x y).ev σ = x.ev σ ||| y.ev σ := by
  simp only [SgB.ev, orB]
  rw [orG_ok]
  apply Nat.eq_of_testBit_eq
  intro n
  simp only [Nat.testBit_or]
  cases x.1.testBit n <;> cases y.1.testBit n <;> cases (sgv σ x.2).testBit n <;> rfl
theorem bitsN_lt (n : Nat) : n < 2 ^ bitsN n := by
  unfold bitsN
  split
  · rename_i h; rw [Nat.eq_of_beq_eq_true h]; simp
  · exact Nat.lt_log2_self
theorem topG_ok : ∀ {l : List Sg}, sgv σ l < 2 ^ topG l
  | [] => by simp [sgv, topG]
  | g :: l => by
    rw [sgv_cons]
    simp only [topG]
    refine Nat.or_lt_two_pow ?_ (Nat.lt_of_lt_of_le topG_ok (Nat.pow_le_pow_right (by omega) (Nat.le_max_right _ _)))
    refine Nat.lt_of_lt_of_le ?_ (Nat.pow_le_pow_right (by omega) (Nat.le_max_left _ _))
    simp only [gv, Nat.shiftLeft_eq]
    rw [Nat.pow_add, Nat.mul_comm]
    exact Nat.mul_lt_mul_of_pos_left (fld_lt _ _) (Nat.two_pow_pos _)
theorem topB_ok {x : SgB} : x.ev σ < 2 ^ topB x :=
  Nat.or_lt_two_pow (Nat.lt_of_lt_of_le (bitsN_lt _) (Nat.pow_le_pow_right (by omega) (Nat.le_max_left _ _))) (Nat.lt_of_lt_of_le topG_ok (Nat.pow_le_pow_right (by omega) (Nat.le_max_right _ _)))
end
end Sx
