/-
  What runs where the package variables alone lie, runs in any heap that has them.
-/
import Derived.Test.YtnhdpfbfgojkpaaGreatDoorMxT
import Derived.Test.YtnhdpfbfgojkpaaGreatDoorMxV
import Derived.Test.YtnhdpfbfgojkpaaGreatDoorMxW
namespace Mx
open Go
def sameRow : Option O → Option O → Bool
  | none, none => true
  | some a, some b => a.ro == b.ro && V.sames a.c b.c
  | _, _ => false
theorem sameRow_eq {a b : Option O} (h : sameRow a b = true) : a = b := by
  cases a <;> cases b <;> simp only [sameRow] at h
  · rfl
  · cases h
  · cases h
  · rename_i a b
    simp only [Bool.and_eq_true, beq_iff_eq] at h
    obtain ⟨h1, h2⟩ := h
    have := sames_eq _ _ h2
    cases a; cases b
    simp only at h1 this
    rw [h1, this]
def okRows (gs : Nat) (l : List (Nat × List V)) : Bool := l.all fun x => decide (x.1 < gs) && V.bares x.2
def okRun (gs : Nat) (l : List (Nat × List V)) (r : Option (V × H)) (v : V) : Bool := match r with
  | some (u, h1) => V.same u v && (List.range gs).all fun id => sameRow (h1.get id) ((rowsH gs l).get id)
  | none => false
theorem Fnc_rows (gs : Nat) {IP : Nat → Option IFn} (hb : @AllBare ⟨gs⟩ IP) (k : Nat) {f : Nat} {a : List V} (l : List (Nat × List V)) (hl : okRows gs l = true) (ha : V.bares a = true) {v : V} (hv : v.bare = true)
    (R : Option (V × H)) (hR : ∀ r, R = some r → ev IP k f a (rowsH gs l) = some r) (e : okRun gs l R v = true) (h : H) (hh : gs ≤ h.nx) (hrows : ∀ id, id < gs → h.get id = (rowsH gs l).get id) {Q : V → H → Prop}
    (q : ∀ h', (∀ id, id < h.nx → h'.get id = h.get id) → h.nx ≤ h'.nx → Q v h') : @wF IP f a h ⟨Q⟩ := by
  cases hr : R with
  | none => rw [hr] at e; simp [okRun] at e
  | some r =>
    obtain ⟨u, h1⟩ := r
    rw [hr] at e
    simp only [okRun, Bool.and_eq_true, List.all_eq_true, List.mem_range] at e
    have hu := same_eq _ _ e.1
    subst hu
    have hk := hR _ hr
    refine @Fnc_any_g ⟨gs⟩ IP hb k f a ha u hv (rowsH gs l) (rowsH_nx gs l) (fun id o ho => ?_) h1 hk (fun id hid => sameRow_eq (e.2 id hid)) h hh hrows Q q
    have hm := (rowsH_get ho).2
    have := List.all_eq_true.1 hl _ hm
    simpa using this
end Mx
