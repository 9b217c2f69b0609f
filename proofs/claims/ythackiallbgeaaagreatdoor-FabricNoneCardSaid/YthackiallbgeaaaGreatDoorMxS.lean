import Derived.Test.YthackiallbgeaaaGreatDoorMxR
namespace Mx
open Go
class Hid (α : Type) where
  un : α
def Bnd {α : Type} (o : Option α) [Q : Hid (α → Prop)] : Prop := ∃ v, o = some v ∧ Q.un v
def Sel (v : V) [A : Hid Prop] [B : Hid Prop] : Prop := ∃ x, v = .b x ∧ (if x = true then A.un else B.un)
def Grd (v : V) (w : Bool) [A : Hid Prop] [B : Hid Prop] : Prop := match v with
  | .b x => if x = w then A.un else B.un
  | _ => B.un
section
variable (IP : Nat → Option IFn)
def wF (f : Nat) (a : List V) (h : H) [Q : Hid (V → H → Prop)] : Prop := Fnc IP f a h Q.un
def wV (x : V) (a : List V) (h : H) [Q : Hid (V → H → Prop)] : Prop := ∃ f caps, x = .fn f caps ∧ Fnc IP f (a ++ caps) h Q.un
variable {IP}
end
def land (k : IntKind) (a b : Int) : Int := k.wrap (BitVec.ofInt k.bits a &&& BitVec.ofInt k.bits b).toNat
def lor (k : IntKind) (a b : Int) : Int := k.wrap (BitVec.ofInt k.bits a ||| BitVec.ofInt k.bits b).toNat
theorem wf64 {n : Int} (h : (Lit.int .i64 n).wf = true) : -9223372036854775808 ≤ n ∧ n ≤ 9223372036854775807 := by
  simp [Lit.wf, IntKind.min, IntKind.max, IntKind.bits, IntKind.signed] at h; exact h
theorem wf32u {n : Int} (h : (Lit.int .u32 n).wf = true) : 0 ≤ n ∧ n ≤ 4294967295 := by
  simp [Lit.wf, IntKind.min, IntKind.max, IntKind.bits, IntKind.signed] at h; exact h
theorem cut_one (c : List V) (off : Nat) : cut c off 1 = match c[off]? with
    | some v => some [v]
    | none => none := by
  unfold cut
  by_cases h : off + 1 ≤ c.length
  · rw [if_pos h]
    have hl : off < c.length := h
    rw [List.getElem?_eq_getElem hl, List.take_one, List.head?_drop, List.getElem?_eq_getElem hl]; rfl
  · rw [if_neg h, List.getElem?_eq_none (by omega)]
mutual
theorem same_refl : ∀ v : V, V.same v v = true
  | .i k n => by simp [V.same]
  | .b x => by simp [V.same]
  | .s x => by simp [V.same]
  | .p a => by simp [V.same]
  | .sl a b c d => by simp [V.same]
  | .nsl => by simp [V.same]
  | .es z => by simp [V.same]
  | .so a b c => by simp [V.same]
  | .fn f l => by simp [V.same, sames_refl l]
  | .nfn => by simp [V.same]
  | .agg l => by simp [V.same, sames_refl l]
  | .tup l => by simp [V.same, sames_refl l]
theorem sames_refl : ∀ l : List V, V.sames l l = true
  | [] => by simp [V.sames]
  | x :: l => by simp [V.sames, same_refl x, sames_refl l]
end
end Mx
