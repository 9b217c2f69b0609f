import Derived.Test.YthackiallbgeaaaGreatDoorSxC
namespace Sx
open Go Mx
def segOf (w : Nat) : Tm → SgB
  | .seg w' f u => (0, [(0, w', f, u)])
  | t => (0, [(0, w, 0, t)])
def toSgE (pc : PC) : SX → Option SgB
  | .lit n => if ile 0 n then some (n.toNat, []) else none
  | .tm t => match rg pc t with
    | (some lo, some hi) => if ile 0 lo then some (segOf (bitsN hi.toNat) t) else none
    | _ => none
  | .sg b l => some (b, l)
def modB (n : Nat) (x : SgB) : Option SgB := if Nat.ble (topB x) n then some x else andB (2 ^ n - 1) x
def toSg (k : IntKind) (pc : PC) (x : SX) : Option SgB := match toSgE pc x with
  | some y => modB k.bits y
  | none => match x with
    | .lit n => some ((n % ((2 ^ k.bits : Nat) : Int)).toNat, [])
    | .tm t => some (0, [(0, k.bits, 0, t)])
    | .sg _ _ => none
def inW (pc : PC) (w : Nat) (t : Tm) : Bool := match rg pc t with
  | (some lo, some hi) => ile 0 lo && ilt hi ((2 ^ w : Nat) : Int)
  | _ => false
def fromSg (pc : PC) (x : SgB) : SX := match x.2 with
  | [] => .lit x.1
  | [g] => if Nat.beq x.1 0 && Nat.beq g.1 0 then
      (if Nat.beq g.2.2.1 0 && inW pc g.2.1 g.2.2.2 then .tm g.2.2.2 else .tm (.seg g.2.1 g.2.2.1 g.2.2.2))
    else .sg x.1 [g]
  | l => .sg x.1 l
def fromSgK (k : IntKind) (pc : PC) (x : SgB) : Res SX :=
  if k.signed then (if Nat.ble (topB x) (k.bits - 1) then .ok (fromSg pc x) else .no)
  else match modB k.bits x with
    | some y => .ok (fromSg pc y)
    | none => .no
def toTm : SX → Option Tm
  | .lit n => some (.lit n)
  | .tm t => some t
  | .sg _ _ => none
def inK (k : IntKind) (r : Rg) : Bool := match r with
  | (some lo, some hi) => ile k.min lo && ile hi k.max
  | _ => false
def rgO (r : Rg) (c : Int) : Rg := (oAdd r.1 c, oAdd r.2 c)
def addO (k : IntKind) (pc : PC) (t : Tm) (n : Int) : SX :=
  let t' := mkOff (split t).1 ((split t).2 + n)
  if inK k (rgO (rg pc t) n) then .tm t' else .tm (.bin .add k t (.lit n))
def opq (o : BinOp) (k : IntKind) (x y : SX) : Res SX := match toTm x, toTm y with
  | some a, some b => .ok (.tm (.bin o k a b))
  | _, _ => .no
def addX (k : IntKind) (pc : PC) (x y : SX) : Res SX := match x, y with
  | .lit m, .lit n => .ok (.lit (k.wrap (m + n)))
  | .tm t, .lit n => .ok (addO k pc t n)
  | .lit n, .tm t => .ok (addO k pc t n)
  | x, y => opq .add k x y
def subX (k : IntKind) (pc : PC) (x y : SX) : Res SX := match x, y with
  | .lit m, .lit n => .ok (.lit (k.wrap (m - n)))
  | .tm t, .lit n => .ok (addO k pc t (-n))
  | .tm t, .tm u => if Tm.beq (split t).1 (split u).1 then .ok (.lit (k.wrap ((split t).2 - (split u).2))) else opq .sub k x y
  | x, y => opq .sub k x y
def mulX (k : IntKind) (x y : SX) : Res SX := match x, y with
  | .lit m, .lit n => .ok (.lit (k.wrap (m * n)))
  | x, y => opq .mul k x y
def divX (o : BinOp) (k : IntKind) (x y : SX) : Res SX := match y with
  | .lit n => if ieq n 0 then .no else opq o k x y
  | _ => .no
def andX (k : IntKind) (pc : PC) (x y : SX) : Res SX := match toSg k pc x, toSg k pc y with
  | some a, some b => match b.2 with
    | [] => match andB b.1 a with
      | some c => fromSgK k pc c
      | none => .no
    | _ => match a.2 with
      | [] => match andB a.1 b with
        | some c => fromSgK k pc c
        | none => .no
      | _ => .no
  | _, _ => .no
def orX (k : IntKind) (pc : PC) (x y : SX) : Res SX := match toSg k pc x, toSg k pc y with
  | some a, some b => fromSgK k pc (orB a b)
  | _, _ => .no
def clrX (k : IntKind) (pc : PC) (x y : SX) : Res SX := match toSg k pc x, toSg k pc y with
  | some a, some b => match b.2 with
    | [] => match andB (2 ^ k.bits - 1 - b.1) a with
      | some c => fromSgK k pc c
      | none => .no
    | _ => .no
  | _, _ => .no
def arith (o : BinOp) (k : IntKind) (pc : PC) (x y : SX) : Res SX := match o with
  | .add => addX k pc x y
  | .sub => subX k pc x y
  | .mul => mulX k x y
  | .quo => divX .quo k x y
  | .rem => divX .rem k x y
  | .and => andX k pc x y
  | .or => orX k pc x y
  | .xor => opq .xor k x y
  | .andNot => clrX k pc x y
  | _ => .no
def shX (o : BinOp) (k : IntKind) (pc : PC) (x : SX) (b : Int) : Res SX :=
  if ilt b 0 then .no else
  match o with
  | .shl => match toSg k pc x with
    | some a => fromSgK k pc (shlB (min b.toNat k.bits) a)
    | none => .no
  | .shr => match toSgE pc x with
    | some a => .ok (fromSg pc (shrB (min b.toNat k.bits) a))
    | none => opq .shr k x (.lit b)
  | _ => .no
def cviX (k : IntKind) (pc : PC) (x : SX) : Res SX := match x with
  | .lit n => .ok (.lit (k.wrap n))
  | .tm t => if inK k (rg pc t) then .ok (.tm t) else match toSg k pc x with
    | some a => fromSgK k pc a
    | none => .no
  | x => match toSg k pc x with
    | some a => fromSgK k pc a
    | none => .no
inductive CK where
  | eq
  | lt
  | le
def CK.at : CK → SX → SX → At
  | .eq, x, y => .eq x y
  | .lt, x, y => .lt x y
  | .le, x, y => .le x y
def rgX (pc : PC) : SX → Rg
  | .lit n => (some n, some n)
  | .tm t => rg pc t
  | .sg b l => (some (b : Int), some (((2 ^ topB (b, l) : Nat) : Int) - 1))
def nrm (c : CK) (x y : SX) : At := match x, y with
  | .tm t, .lit n => c.at (.tm (split t).1) (.lit (n - (split t).2))
  | .lit n, .tm t => c.at (.lit (n - (split t).2)) (.tm (split t).1)
  | .tm t, .tm u => if Tm.beq (split t).1 (split u).1 then c.at (.lit (split t).2) (.lit (split u).2) else c.at (.tm t) (.tm u)
  | x, y => c.at x y
def ltR (a b : Rg) : Bool := match a.2, b.1 with
  | some h, some l => ilt h l
  | _, _ => false
def leR (a b : Rg) : Bool := match a.2, b.1 with
  | some h, some l => ile h l
  | _, _ => false
def dec (pc : PC) (a : At) : Option Bool := match a with
  | .eq x y => if SX.beq x y then some true else if ltR (rgX pc x) (rgX pc y) || ltR (rgX pc y) (rgX pc x) then some false else if leR (rgX pc x) (rgX pc y) && leR (rgX pc y) (rgX pc x) then some true else lookup pc a
  | .lt x y => if ltR (rgX pc x) (rgX pc y) then some true else if leR (rgX pc y) (rgX pc x) then some false else lookup pc a
  | .le x y => if leR (rgX pc x) (rgX pc y) then some true else if ltR (rgX pc y) (rgX pc x) then some false else lookup pc a
def cmp (c : CK) (pc : PC) (x y : SX) : S := match dec pc (nrm c x y) with
  | some r => .b r
  | none => .q (nrm c x y) false
def cmpA (c : CK) (pc : PC) (x y : SX) : Res Bool := match dec pc (nrm c x y) with
  | some r => .ok r
  | none => .ask (nrm c x y)
def S.neg : S → S
  | .b r => .b (!r)
  | .q a n => .q a (!n)
  | x => x
section
variable {σ : Nat → Int} {pc : PC}
theorem seg_tm (w f : Nat) (t : Tm) : (Tm.seg w f t).ev σ = ((sgv σ [(0, w, f, t)] : Nat) : Int) := by
  have hp : (0 : Int) < ((2 ^ w : Nat) : Int) := by exact_mod_cast Nat.two_pow_pos w
  have h1 := Int.emod_nonneg (t.ev σ / ((2 ^ f : Nat) : Int)) (show ((2 ^ w : Nat) : Int) ≠ 0 by omega)
  simp only [Tm.ev, sgv, Nat.shiftLeft_zero, Nat.or_zero]
  omega
theorem segOf_ok {w : Nat} {t : Tm} (h0 : 0 ≤ t.ev σ) (h1 : t.ev σ < ((2 ^ w : Nat) : Int)) : t.ev σ = (((segOf w t).ev σ : Nat) : Int) := by
  have gen : t.ev σ = ((SgB.ev σ (0, [(0, w, 0, t)]) : Nat) : Int) := by
    simp only [SgB.ev, Nat.zero_or]
    rw [← seg_tm]
    simp only [Tm.ev, Nat.pow_zero]
    rw [show ((1 : Nat) : Int) = 1 from rfl, Int.ediv_one, Int.emod_eq_of_lt h0 h1]
  cases t <;> first | exact gen | skip
  rename_i w' f u
  simp only [segOf, SgB.ev, Nat.zero_or]
  exact seg_tm _ _ _
theorem toSgE_ok (hs : Sat σ pc) {x : SX} {y : SgB} (h : toSgE pc x = some y) : x.ev σ = ((y.ev σ : Nat) : Int) := by
  cases x with
  | lit n =>
    simp only [toSgE] at h
    split at h
    · rename_i h0
      cases h
      have := ile_eq.1 h0
      simp only [SX.ev, SgB.ev, sgv, Nat.or_zero]
      omega
    · cases h
  | tm t =>
    simp only [toSgE] at h
    have hr := rg_in hs t
    split at h
    · rename_i lo hi e
      rw [e] at hr
      split at h
      · rename_i h0
        cases h
        have h1 := ile_eq.1 h0
        have h2 := hr.1 _ rfl
        have h3 := hr.2 _ rfl
        refine segOf_ok (by omega) ?_
        have := bitsN_lt hi.toNat
        have e2 : (hi.toNat : Int) < ((2 ^ bitsN hi.toNat : Nat) : Int) := by exact_mod_cast this
        omega
      · cases h
    · cases h
  | sg b l => simp only [toSgE] at h; cases h; rfl
theorem modB_ok {n : Nat} {x y : SgB} (h : modB n x = some y) : y.ev σ = x.ev σ % 2 ^ n := by
  unfold modB at h
  split at h
  · rename_i hb
    cases h
    rw [Nat.mod_eq_of_lt]
    exact Nat.lt_of_lt_of_le topB_ok (Nat.pow_le_pow_right (by omega) (Nat.le_of_ble_eq_true hb))
  · rw [← andB_ok h, Nat.and_two_pow_sub_one_eq_mod]
theorem toSg_ok (hs : Sat σ pc) {k : IntKind} {x : SX} {y : SgB} (h : toSg k pc x = some y) : (x.ev σ % ((2 ^ k.bits : Nat) : Int)).toNat = y.ev σ := by
  unfold toSg at h
  split at h
  · rename_i z hz
    rw [toSgE_ok hs hz, modB_ok h]
    rw [← Int.natCast_emod, Int.toNat_natCast]
  · split at h
    · cases h; simp only [SX.ev, SgB.ev, sgv, Nat.or_zero]
    · cases h
      rename_i t _
      simp only [SX.ev, SgB.ev, Nat.zero_or, sgv, Nat.or_zero, Nat.shiftLeft_zero, Nat.pow_zero]
      rw [show ((1 : Nat) : Int) = 1 from rfl, Int.ediv_one]
    · cases h
theorem fromSg_ok (hs : Sat σ pc) (x : SgB) : (fromSg pc x).ev σ = ((x.ev σ : Nat) : Int) := by
  obtain ⟨b, l⟩ := x
  unfold fromSg
  split
  · rename_i h
    simp only at h; subst h
    simp [SX.ev, SgB.ev, sgv]
  · rename_i g h
    simp only at h; subst h
    split
    · rename_i hc
      simp only [Bool.and_eq_true] at hc
      have hb := Nat.eq_of_beq_eq_true hc.1
      have h0 := Nat.eq_of_beq_eq_true hc.2
      subst hb
      obtain ⟨o, w, f, t⟩ := g
      simp only at h0; subst h0
      have key : ((SgB.ev σ (0, [(0, w, f, t)]) : Nat) : Int) = (Tm.seg w f t).ev σ := by
        rw [seg_tm]; simp only [SgB.ev, Nat.zero_or]
      split
      · rename_i hc2
        rw [Bool.and_eq_true] at hc2
        have hf := Nat.eq_of_beq_eq_true hc2.1
        simp only at hf; subst hf
        have hr := rg_in hs t
        have hc3 := hc2.2
        unfold inW at hc3
        split at hc3
        · rename_i lo hi e
          rw [e] at hr
          simp only [Bool.and_eq_true, ile_eq, ilt_eq] at hc3
          have h2 := hr.1 _ rfl
          have h3 := hr.2 _ rfl
          rw [key]
          simp only [SX.ev, Tm.ev, Nat.pow_zero]
          rw [show ((1 : Nat) : Int) = 1 from rfl, Int.ediv_one, Int.emod_eq_of_lt (by omega) (by omega)]
        · cases hc3
      · rw [key]; rfl
    · rfl
  · rfl
theorem wrap_mod (k : IntKind) (n : Int) : k.wrap (n % ((2 ^ k.bits : Nat) : Int)) = k.wrap n := by
  cases k <;> simp [IntKind.wrap, IntKind.bits, IntKind.signed]
theorem pow_cast (n : Nat) : ((2 ^ n : Nat) : Int) = (2 : Int) ^ n := by rw [Int.natCast_pow]; rfl
theorem wrap_small {k : IntKind} {n : Nat} (h : n < 2 ^ (if k.signed then k.bits - 1 else k.bits)) : k.wrap (n : Int) = n := by
  have h' : (n : Int) < ((2 ^ (if k.signed then k.bits - 1 else k.bits) : Nat) : Int) := by exact_mod_cast h
  refine wrap_id ?_ ?_
  · cases k <;> simp [IntKind.min, IntKind.bits, IntKind.signed] <;> omega
  · cases k <;> simp [IntKind.max, IntKind.bits, IntKind.signed] at h' ⊢ <;> omega
theorem fromSgK_ok (hs : Sat σ pc) {k : IntKind} {x : SgB} {y : SX} (h : fromSgK k pc x = .ok y) : y.ev σ = k.wrap ((x.ev σ : Nat) : Int) := by
  unfold fromSgK at h
  split at h
  · rename_i hk
    split at h
    · rename_i ht
      cases h
      rw [fromSg_ok hs, wrap_small]
      rw [hk, if_pos rfl]
      exact Nat.lt_of_lt_of_le topB_ok (Nat.pow_le_pow_right (by omega) (Nat.le_of_ble_eq_true ht))
    · cases h
  · rename_i hk
    split at h
    · rename_i z hz
      cases h
      rw [fromSg_ok hs, modB_ok hz, ← wrap_mod k ((x.ev σ : Nat) : Int), ← Int.natCast_emod, wrap_small]
      rw [if_neg hk]
      exact Nat.mod_lt _ (Nat.two_pow_pos _)
    · cases h
theorem toTm_ok {x : SX} {t : Tm} (h : toTm x = some t) : t.ev σ = x.ev σ := by
  cases x <;> simp only [toTm] at h <;> cases h <;> rfl
theorem opq_ok {o : BinOp} {k : IntKind} {x y z : SX} (h : opq o k x y = .ok z) : z.ev σ = binT o k (x.ev σ) (y.ev σ) := by
  unfold opq at h
  split at h
  · rename_i a b ha hb
    cases h
    simp only [SX.ev, Tm.ev, toTm_ok ha, toTm_ok hb]
  · cases h
theorem addO_ok (hs : Sat σ pc) {k : IntKind} {t : Tm} {n : Int} : (addO k pc t n).ev σ = k.wrap (t.ev σ + n) := by
  unfold addO
  simp only
  split
  · rename_i hk
    have hr := rg_in hs t
    unfold inK rgO at hk
    split at hk
    · rename_i lo hi e
      simp only [Prod.mk.injEq] at e
      simp only [Bool.and_eq_true, ile_eq] at hk
      have h1 : lo ≤ t.ev σ + n := by
        have e1 := e.1
        cases h : (rg pc t).1 with
        | none => rw [h] at e1; cases e1
        | some x => rw [h] at e1; simp only [oAdd, Option.some.injEq] at e1; have := hr.1 _ h; omega
      have h2 : t.ev σ + n ≤ hi := by
        have e1 := e.2
        cases h : (rg pc t).2 with
        | none => rw [h] at e1; cases e1
        | some x => rw [h] at e1; simp only [oAdd, Option.some.injEq] at e1; have := hr.2 _ h; omega
      rw [wrap_id (by omega) (by omega)]
      simp only [SX.ev, mkOff_ev]
      have := split_ev (σ := σ) t
      omega
    · cases hk
  · rfl
theorem arith_ok (hs : Sat σ pc) {o : BinOp} {k : IntKind} {x y z : SX} (h : arith o k pc x y = .ok z) : binI o k (x.ev σ) (y.ev σ) = some (.i k (z.ev σ)) := by
  have hand : ∀ (a b : Int), (BitVec.ofInt k.bits a &&& BitVec.ofInt k.bits b).toNat = (a % ((2 ^ k.bits : Nat) : Int)).toNat &&& (b % ((2 ^ k.bits : Nat) : Int)).toNat := by
    intro a b; rw [BitVec.toNat_and, BitVec.toNat_ofInt, BitVec.toNat_ofInt]
  unfold arith at h
  split at h
  ·
    simp only [binI]
    unfold addX at h
    split at h
    · cases h; rfl
    · cases h; rw [addO_ok hs]; rfl
    · cases h; rw [addO_ok hs, Int.add_comm]; rfl
    · rw [opq_ok h]; rfl
  · simp only [binI]
    unfold subX at h
    split at h
    · cases h; rfl
    · cases h; rw [addO_ok hs]; rfl
    · split at h
      · rename_i t u hb
        cases h
        have e := Tm.beq_eq hb
        have e1 := split_ev (σ := σ) t
        have e2 := split_ev (σ := σ) u
        rw [e] at e1
        simp only [SX.ev]
        congr 3; omega
      · rw [opq_ok h]; rfl
    · rw [opq_ok h]; rfl
  · simp only [binI]
    unfold mulX at h
    split at h
    · cases h; rfl
    · rw [opq_ok h]; rfl
  · unfold divX at h
    split at h
    · rename_i n
      split at h
      · cases h
      · rename_i hn
        have hn0 : ¬ n = 0 := fun e => hn (ieq_eq.2 e)
        have hk : SX.ev σ (.lit n) = n := rfl
        rw [opq_ok h, hk]
        simp only [binT, binI, if_neg hn0, numI]
    · cases h
  · unfold divX at h
    split at h
    · rename_i n
      split at h
      · cases h
      · rename_i hn
        have hn0 : ¬ n = 0 := fun e => hn (ieq_eq.2 e)
        have hk : SX.ev σ (.lit n) = n := rfl
        rw [opq_ok h, hk]
        simp only [binT, binI, if_neg hn0, numI]
    · cases h
  · simp only [binI]
    rw [hand]
    unfold andX at h
    split at h
    · rename_i a b ha hb
      rw [toSg_ok hs ha, toSg_ok hs hb]
      split at h
      · rename_i hb0
        split at h
        · rename_i c hc
          rw [fromSgK_ok hs h, ← andB_ok hc]
          obtain ⟨b1, b2⟩ := b
          simp only at hb0; subst hb0
          simp only [SgB.ev, sgv, Nat.or_zero]
        · cases h
      · split at h
        · rename_i ha0
          split at h
          · rename_i c hc
            rw [fromSgK_ok hs h, ← andB_ok hc]
            obtain ⟨a1, a2⟩ := a
            simp only at ha0; subst ha0
            rw [Nat.and_comm]
            simp only [SgB.ev, sgv, Nat.or_zero]
          · cases h
        · cases h
    · cases h
  · simp only [binI]
    unfold orX at h
    split at h
    · rename_i a b ha hb
      rw [BitVec.toNat_or, BitVec.toNat_ofInt, BitVec.toNat_ofInt, toSg_ok hs ha, toSg_ok hs hb, fromSgK_ok hs h, orB_ok]
    · cases h
  · rw [opq_ok h]; rfl
  · simp only [binI]
    unfold clrX at h
    split at h
    · rename_i a b ha hb
      split at h
      · rename_i hb0
        split at h
        · rename_i c hc
          rw [BitVec.toNat_and, BitVec.toNat_not, BitVec.toNat_ofInt, BitVec.toNat_ofInt, toSg_ok hs ha, toSg_ok hs hb, fromSgK_ok hs h, ← andB_ok hc]
          obtain ⟨b1, b2⟩ := b
          simp only at hb0; subst hb0
          simp only [SgB.ev, sgv, Nat.or_zero]
        · cases h
      · cases h
    · cases h
  · cases h
theorem wrap_congr {k : IntKind} {a b : Int} (h : a % ((2 ^ k.bits : Nat) : Int) = b % ((2 ^ k.bits : Nat) : Int)) : k.wrap a = k.wrap b := by
  rw [← wrap_mod k a, h, wrap_mod]
theorem shX_ok (hs : Sat σ pc) {o : BinOp} {k : IntKind} {x z : SX} {b : Int} (h : shX o k pc x b = .ok z) : shI o k (x.ev σ) b = some (.i k (z.ev σ)) := by
  unfold shX at h
  split at h
  · cases h
  · rename_i hb
    have hb0 : ¬ b < 0 := fun e => hb (ilt_eq.2 e)
    unfold shI
    rw [if_neg hb0]
    split at h
    · split at h
      · rename_i a ha
        have e := fromSgK_ok hs h
        rw [shlB_ok, ← toSg_ok hs ha] at e
        simp only
        rw [e]
        congr 2
        refine wrap_congr ?_
        have hp : (0 : Int) < ((2 ^ k.bits : Nat) : Int) := by exact_mod_cast Nat.two_pow_pos _
        have h1 := Int.emod_nonneg (x.ev σ) (show ((2 ^ k.bits : Nat) : Int) ≠ 0 by omega)
        rw [Nat.shiftLeft_eq, Int.natCast_mul, Int.toNat_of_nonneg h1, pow_cast (min b.toNat k.bits)]
        generalize ((2 : Int) ^ min b.toNat k.bits) = B
        generalize ((2 ^ k.bits : Nat) : Int) = M
        rw [Int.mul_emod, Int.mul_emod (SX.ev σ x % M) B M, Int.emod_emod_of_dvd (SX.ev σ x) (Int.dvd_refl M)]
      · cases h
    · split at h
      · rename_i a ha
        cases h
        simp only
        rw [fromSg_ok hs, shrB_ok, toSgE_ok hs ha, Nat.shiftRight_eq_div_pow, Int.natCast_ediv, pow_cast]
        rw [Int.fdiv_eq_ediv_of_nonneg _ (Int.pow_nonneg (by omega))]
      · simp only
        rw [opq_ok h]
        rfl
    · cases h
theorem inK_wrap (hs : Sat σ pc) {k : IntKind} {t : Tm} (h : inK k (rg pc t) = true) : k.wrap (t.ev σ) = t.ev σ := by
  have hr := rg_in hs t
  unfold inK at h
  split at h
  · rename_i lo hi e
    rw [e] at hr
    simp only [Bool.and_eq_true, ile_eq] at h
    have h2 := hr.1 _ rfl
    have h3 := hr.2 _ rfl
    exact wrap_id (by omega) (by omega)
  · cases h
theorem cviX_ok (hs : Sat σ pc) {k : IntKind} {x z : SX} (h : cviX k pc x = .ok z) : z.ev σ = k.wrap (x.ev σ) := by
  have gen : (match toSg k pc x with | some a => fromSgK k pc a | none => .no) = Res.ok z → z.ev σ = k.wrap (x.ev σ) := by
    intro h
    split at h
    · rename_i a ha
      rw [fromSgK_ok hs h, ← toSg_ok hs ha]
      have hp : (0 : Int) < ((2 ^ k.bits : Nat) : Int) := by exact_mod_cast Nat.two_pow_pos _
      have h1 := Int.emod_nonneg (x.ev σ) (show ((2 ^ k.bits : Nat) : Int) ≠ 0 by omega)
      rw [Int.toNat_of_nonneg h1, wrap_mod]
    · cases h
  unfold cviX at h
  split at h
  · cases h; rfl
  · split at h
    · rename_i hk; cases h; exact (inK_wrap hs hk).symm
    · exact gen h
  · exact gen h
theorem CK.at_ev (c : CK) (x y : SX) : (c.at x y).ev σ = match c with | .eq => x.ev σ == y.ev σ | .lt => decide (x.ev σ < y.ev σ) | .le => decide (x.ev σ ≤ y.ev σ) := by
  cases c <;> rfl
theorem nrm_ev (c : CK) (x y : SX) : (nrm c x y).ev σ = (c.at x y).ev σ := by
  have sh : ∀ (x y x' y' : SX) (d : Int), x'.ev σ = x.ev σ + d → y'.ev σ = y.ev σ + d → (c.at x' y').ev σ = (c.at x y).ev σ := by
    intro x y x' y' d h1 h2
    rw [CK.at_ev, CK.at_ev, h1, h2]
    cases c
    · simp only
      by_cases h : x.ev σ = y.ev σ
      · rw [h]; simp
      · have h2 : ¬ x.ev σ + d = y.ev σ + d := by omega
        rw [beq_eq_false_iff_ne.2 h, beq_eq_false_iff_ne.2 h2]
    · by_cases h : x.ev σ < y.ev σ
      · have : x.ev σ + d < y.ev σ + d := by omega
        simp [h]
      · have : ¬ x.ev σ + d < y.ev σ + d := by omega
        simp [h]
    · by_cases h : x.ev σ ≤ y.ev σ
      · have : x.ev σ + d ≤ y.ev σ + d := by omega
        simp [h]
      · have : ¬ x.ev σ + d ≤ y.ev σ + d := by omega
        simp [h]
  unfold nrm
  split
  · rename_i t n
    have := split_ev (σ := σ) t
    exact sh _ _ _ _ (-(split t).2) (by simp only [SX.ev]; omega) (by simp only [SX.ev]; omega)
  · rename_i n t
    have := split_ev (σ := σ) t
    exact sh _ _ _ _ (-(split t).2) (by simp only [SX.ev]; omega) (by simp only [SX.ev]; omega)
  · rename_i t u
    split
    · rename_i hb
      have e := Tm.beq_eq hb
      have e1 := split_ev (σ := σ) t
      have e2 := split_ev (σ := σ) u
      rw [← e] at e2
      exact sh _ _ _ _ (-((split t).1.ev σ)) (by simp only [SX.ev]; omega) (by simp only [SX.ev]; omega)
    · rfl
  · rfl
theorem rgX_in (hs : Sat σ pc) (x : SX) : InR (rgX pc x) (x.ev σ) := by
  cases x with
  | lit n => exact ⟨fun m h => by simp only [rgX] at h; cases h; exact Int.le_refl _, fun m h => by simp only [rgX] at h; cases h; exact Int.le_refl _⟩
  | tm t => exact rg_in hs t
  | sg b l =>
    constructor
    · intro m h
      simp only [rgX] at h; cases h
      simp only [SX.ev]
      exact_mod_cast Nat.left_le_or
    · intro m h
      simp only [rgX] at h; cases h
      have : SgB.ev σ (b, l) < 2 ^ topB (b, l) := topB_ok
      have e : ((SgB.ev σ (b, l) : Nat) : Int) < ((2 ^ topB (b, l) : Nat) : Int) := by exact_mod_cast this
      simp only [SX.ev]
      simp only [SgB.ev] at e
      omega
theorem ltR_ok {a b : Rg} {x y : Int} (ha : InR a x) (hb : InR b y) (h : ltR a b = true) : x < y := by
  unfold ltR at h
  split at h
  · rename_i m n h1 h2
    have := ha.2 _ h1
    have := hb.1 _ h2
    have := ilt_eq.1 h
    omega
  · cases h
theorem leR_ok {a b : Rg} {x y : Int} (ha : InR a x) (hb : InR b y) (h : leR a b = true) : x ≤ y := by
  unfold leR at h
  split at h
  · rename_i m n h1 h2
    have := ha.2 _ h1
    have := hb.1 _ h2
    have := ile_eq.1 h
    omega
  · cases h
theorem dec_ok (hs : Sat σ pc) {a : At} {r : Bool} (h : dec pc a = some r) : a.ev σ = r := by
  unfold dec at h
  split at h
  · rename_i x y
    split at h
    · rename_i hb; cases h; rw [SX.beq_eq hb]; simp [At.ev]
    · split at h
      · rename_i hc
        cases h
        simp only [At.ev, beq_eq_false_iff_ne, ne_eq]
        rcases Bool.or_eq_true _ _ ▸ hc with hc | hc
        · have := ltR_ok (rgX_in hs x) (rgX_in hs y) hc; omega
        · have := ltR_ok (rgX_in hs y) (rgX_in hs x) hc; omega
      · split at h
        · rename_i hc
          cases h
          obtain ⟨h1, h2⟩ := by simpa only [Bool.and_eq_true] using hc
          have := leR_ok (rgX_in hs x) (rgX_in hs y) h1
          have := leR_ok (rgX_in hs y) (rgX_in hs x) h2
          simp only [At.ev, beq_iff_eq]
          omega
        · exact lookup_ok hs h
  · rename_i x y
    split at h
    · rename_i hc; cases h; have := ltR_ok (rgX_in hs x) (rgX_in hs y) hc; simp [At.ev, this]
    · split at h
      · rename_i hc; cases h; have := leR_ok (rgX_in hs y) (rgX_in hs x) hc; simp [At.ev]; omega
      · exact lookup_ok hs h
  · rename_i x y
    split at h
    · rename_i hc; cases h; have := leR_ok (rgX_in hs x) (rgX_in hs y) hc; simp [At.ev, this]
    · split at h
      · rename_i hc; cases h; have := ltR_ok (rgX_in hs y) (rgX_in hs x) hc; simp [At.ev]; omega
      · exact lookup_ok hs h
theorem cmp_ok (hs : Sat σ pc) (c : CK) (x y : SX) : den σ (cmp c pc x y) = .b ((c.at x y).ev σ) := by
  unfold cmp
  split
  · rename_i r h
    have := dec_ok hs h
    rw [nrm_ev] at this
    rw [this]; rfl
  · simp only [den, nrm_ev, Bool.xor_false]
theorem cmpA_ok (hs : Sat σ pc) {c : CK} {x y : SX} {r : Bool} (h : cmpA c pc x y = .ok r) : (c.at x y).ev σ = r := by
  unfold cmpA at h
  split at h
  · rename_i r' h'
    cases h
    have := dec_ok hs h'
    rwa [nrm_ev] at this
  · cases h
end
end Sx
