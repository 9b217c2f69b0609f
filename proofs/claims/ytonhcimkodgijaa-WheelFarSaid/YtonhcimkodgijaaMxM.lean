/-
  A statement whose operations may come up in more than one order: the proof.
-/
import Derived.Test.YtonhcimkodgijaaMxL
namespace Mx
open Go

mutual
theorem same_eq : ∀ (x y : V), V.same x y = true → x = y
  | .i k a, y, h => by cases y <;> simp [V.same] at h; rw [h.1, h.2]
  | .b a, y, h => by cases y <;> simp [V.same] at h; rw [h]
  | .s a, y, h => by
    cases y <;> simp [V.same] at h
    rename_i b
    cases a; cases b; simp at h; rw [h]
  | .p a, y, h => by cases y <;> simp [V.same] at h; rw [h]
  | .sl a b c d, y, h => by
    cases y <;> simp [V.same] at h
    obtain ⟨⟨⟨h1, h2⟩, h3⟩, h4⟩ := h
    rw [h1, h2, h3, h4]
  | .nsl, y, h => by cases y <;> simp [V.same] at h; rfl
  | .es a, y, h => by cases y <;> simp [V.same] at h; rw [h]
  | .so a b c, y, h => by
    cases y <;> simp [V.same] at h
    obtain ⟨⟨h1, h2⟩, h3⟩ := h
    rw [h1, h2, h3]
  | .fn f l, y, h => by
    cases y <;> simp [V.same] at h
    rw [h.1, sames_eq _ _ h.2]
  | .nfn, y, h => by cases y <;> simp [V.same] at h; rfl
  | .agg l, y, h => by
    cases y <;> simp [V.same] at h
    rw [sames_eq _ _ h]
  | .tup l, y, h => by
    cases y <;> simp [V.same] at h
    rw [sames_eq _ _ h]
theorem sames_eq : ∀ (x y : List V), V.sames x y = true → x = y
  | [], y, h => by cases y <;> simp [V.sames] at h; rfl
  | a :: l, y, h => by
    cases y <;> simp [V.sames] at h
    rw [same_eq _ _ h.1, sames_eq _ _ h.2]
end

instance : Inhabited H := ⟨⟨0, .l⟩⟩

/-- the states ahead of each operation -/
def Steps1 (C : Nat → List V → H → Option (V × H)) (il : List IOp) (S : Nat → T × H) : Prop := ∀ i o, il[i]? = some o → iop C o (S i).1 (S i).2 = some (S (i + 1))

theorem trace_steps {C : Nat → List V → H → Option (V × H)} : ∀ {il : List IOp} {ts : T} {h : H} {r : T × H}, iops C il ts h = some r → ∃ st, trace C il ts h = some st ∧ st.length = il.length + 1 ∧ (st.getD 0 default) = (ts, h) ∧ (st.getD il.length default) = r ∧
    Steps1 C il (fun i => st.getD i default)
  | [], ts, h, r, hx => by
    simp only [iops] at hx; cases hx
    exact ⟨[(ts, h)], rfl, rfl, rfl, rfl, fun i o ho => by simp at ho⟩
  | o :: l, ts, h, r, hx => by
    simp only [iops] at hx
    split at hx
    · rename_i t1 h1 hio
      obtain ⟨st, k1, k2, k3, k4, k5⟩ := trace_steps hx
      refine ⟨(ts, h) :: st, by simp only [trace, hio, k1], by simp [k2], rfl, by simpa using k4, ?_⟩
      intro i oi hi
      cases i with
      | zero =>
        simp at hi; subst hi
        simp only [List.getD_cons_zero, List.getD_cons_succ, Nat.zero_add]
        rw [hio, k3]
      | succ i => simpa using k5 i oi (by simpa using hi)
    · cases hx

section
variable {il : List IOp} {S : Nat → T × H}

/-- what a temporary holds, when these operations are done -/
def val (il : List IOp) (S : Nat → T × H) (D : Nat → Bool) : Nat → Nat → V
  | 0, t => (S 0).1.getD t undefV
  | m + 1, t => if D m = true ∧ (il[m]?).bind (·.dst) = some t then (S (m + 1)).1.getD t undefV else val il S D m t

/-- how far the heap is -/
def top (il : List IOp) (D : Nat → Bool) : Nat → Nat
  | 0 => 0
  | m + 1 => if D m = true ∧ (il[m]?).map heapy = some true then m + 1 else top il D m

theorem top_le {D : Nat → Bool} : ∀ m, top il D m ≤ m
  | 0 => Nat.le_refl _
  | m + 1 => by
    unfold top; split
    · exact Nat.le_refl _
    · exact Nat.le_succ_of_le (top_le m)

theorem top_after {D : Nat → Bool} : ∀ m i, top il D m ≤ i → i < m → ¬ (D i = true ∧ (il[i]?).map heapy = some true)
  | 0, i, _, h => by omega
  | m + 1, i, h1, h2 => by
    unfold top at h1
    split at h1
    · omega
    · rename_i hn
      by_cases hi : i = m
      · subst hi; exact hn
      · exact top_after m i h1 (by omega)

theorem top_is {D : Nat → Bool} : ∀ m, 0 < top il D m → D (top il D m - 1) = true ∧ (il[top il D m - 1]?).map heapy = some true
  | 0, h => by simp [top] at h
  | m + 1, h => by
    unfold top at h ⊢
    split
    · rename_i hh; simpa using hh
    · rename_i hh; rw [if_neg hh] at h; exact top_is m h

/-- a row's cells stay through some steps -/
theorem through {C : Nat → List V → H → Option (V × H)} (hS : Steps1 C il S) {id off n : Nat} : ∀ (d a : Nat), a + d ≤ il.length → (∀ i o, a ≤ i → i < a + d → il[i]? = some o → heapy o = true → (S i).2.load id off n = (S (i + 1)).2.load id off n) →
    (S a).2.load id off n = (S (a + d)).2.load id off n
  | 0, a, _, _ => rfl
  | d + 1, a, hl, h => by
    have ih := through hS (id := id) (off := off) (n := n) d a (by omega) (fun i o h1 h2 => h i o h1 (by omega))
    rw [ih]
    have hlt : a + d < il.length := by omega
    have ho : il[a + d]? = some il[a + d] := List.getElem?_eq_getElem hlt
    have hs := hS _ _ ho
    by_cases hh : heapy il[a + d] = true
    · exact h _ _ (by omega) (by omega) ho hh
    · have : (S (a + d + 1)).2 = (S (a + d)).2 := by
        unfold iop at hs
        split at hs
        · split at hs
          · rename_i v h' hv
            have e := congrArg Prod.snd (Option.some.inj hs)
            simp only at e
            rw [← e]
            unfold op1 at hv
            split at hv
            · split at hv
              · cases hv; rfl
              · cases hv
            · rename_i hop; simp [heapy, hop] at hh
            · split at hv
              · cases hv; rfl
              · cases hv
            · rename_i hop; simp [heapy, hop] at hh
          · cases hs
        · have e := congrArg Prod.snd (Option.some.inj hs)
          exact e.symm
        · cases hs
      rw [← Nat.add_assoc, this]

theorem same_heap {C : Nat → List V → H → Option (V × H)} (hS : Steps1 C il S) {i : Nat} {o : IOp} (ho : il[i]? = some o) (hh : heapy o = false ∨ wants (S i).1 o.guard = some false) : (S (i + 1)).2 = (S i).2 := by
  have hs := hS _ _ ho
  unfold iop at hs
  split at hs
  · rename_i hw
    rcases hh with hh | hh
    · split at hs
      · rename_i v h' hv
        have e := congrArg Prod.snd (Option.some.inj hs)
        simp only at e
        rw [← e]
        unfold op1 at hv
        split at hv
        · split at hv
          · cases hv; rfl
          · cases hv
        · rename_i hop; simp [heapy, hop] at hh
        · split at hv
          · cases hv; rfl
          · cases hv
        · rename_i hop; simp [heapy, hop] at hh
      · cases hs
    · rw [hw] at hh; cases hh
  · exact (congrArg Prod.snd (Option.some.inj hs)).symm
  · cases hs

theorem same_heaps {C : Nat → List V → H → Option (V × H)} (hS : Steps1 C il S) : ∀ (d a : Nat), a + d ≤ il.length → (∀ i o, a ≤ i → i < a + d → il[i]? = some o → heapy o = false) → (S (a + d)).2 = (S a).2
  | 0, a, _, _ => rfl
  | d + 1, a, hl, h => by
    have ho : il[a + d]? = some il[a + d] := List.getElem?_eq_getElem (by omega)
    rw [← Nat.add_assoc, same_heap hS ho (.inl (h _ _ (by omega) (by omega) ho))]
    exact same_heaps hS d a (by omega) fun i o h1 h2 => h i o h1 (by omega)

/-- one step's frame -/
theorem step_frame {C : Nat → List V → H → Option (V × H)} (hS : Steps1 C il S) {i : Nat} {o : IOp} (ho : il[i]? = some o) : ∃ v, (S (i + 1)).1 = putT (S i).1 o.dst v := by
  have hs := hS _ _ ho
  unfold iop at hs
  split at hs
  · split at hs
    · rename_i v h' hv
      exact ⟨v, (congrArg Prod.fst (Option.some.inj hs)).symm⟩
    · cases hs
  · exact ⟨undefV, (congrArg Prod.fst (Option.some.inj hs)).symm⟩
  · cases hs

theorem putT_length (ts : T) (d : Option Nat) (v : V) : (putT ts d v).length = ts.length := by cases d <;> simp [putT]
theorem putT_other {ts : T} {d : Option Nat} {v : V} {t : Nat} (h : d ≠ some t) : (putT ts d v).getD t undefV = ts.getD t undefV := by
  cases d with
  | none => rfl
  | some x =>
    have hx : x ≠ t := fun e => h (by rw [e])
    simp only [putT, List.getD_eq_getElem?_getD, List.getElem?_set_ne hx]
theorem putT_same {ts : T} {v : V} {t : Nat} (h : t < ts.length) : (putT ts (some t) v).getD t undefV = v := by
  simp only [putT, List.getD_eq_getElem?_getD, List.getElem?_set_self h, Option.getD_some]

theorem frame_length {C : Nat → List V → H → Option (V × H)} (hS : Steps1 C il S) : ∀ i, i ≤ il.length → (S i).1.length = (S 0).1.length
  | 0, _ => rfl
  | i + 1, h => by
    have ho : il[i]? = some il[i] := List.getElem?_eq_getElem (by omega)
    obtain ⟨v, hv⟩ := step_frame hS ho
    rw [hv, putT_length, frame_length hS i (by omega)]

/-- what is read at 'j' is what the text's order has there -/
theorem val_at {C : Nat → List V → H → Option (V × H)} (hS : Steps1 C il S) {D : Nat → Bool} {j t : Nat} (hlt : ∀ i o, i < j → il[i]? = some o → o.dst = some t → D i = true) (hge : ∀ i o, j ≤ i → il[i]? = some o → o.dst = some t → D i = false) :
    ∀ m, m ≤ il.length → val il S D m t = (S (min m j)).1.getD t undefV
  | 0, _ => by simp [val]
  | m + 1, hm => by
    have ho : il[m]? = some il[m] := List.getElem?_eq_getElem (by omega)
    have ih := val_at hS hlt hge m (by omega)
    unfold val
    rw [ho, Option.bind_some]
    by_cases hmj : m < j
    · rw [Nat.min_eq_left (by omega : m ≤ j)] at ih
      rw [Nat.min_eq_left (by omega : m + 1 ≤ j)]
      by_cases hd : il[m].dst = some t
      · rw [if_pos ⟨hlt m _ hmj ho hd, hd⟩]
      · rw [if_neg (fun h => hd h.2), ih]
        obtain ⟨v, hv⟩ := step_frame hS ho
        rw [hv, putT_other hd]
    · rw [Nat.min_eq_right (by omega : j ≤ m)] at ih
      rw [Nat.min_eq_right (by omega : j ≤ m + 1)]
      rw [if_neg, ih]
      rintro ⟨h1, h2⟩
      rw [hge m _ (by omega) ho h2] at h1; cases h1

theorem val_congr {D D' : Nat → Bool} {t : Nat} : ∀ m, (∀ i o, i < m → il[i]? = some o → o.dst = some t → D i = D' i) → val il S D m t = val il S D' m t
  | 0, _ => rfl
  | m + 1, h => by
    unfold val
    rw [val_congr m fun i o hi => h i o (by omega)]
    cases ho : il[m]? with
    | none => simp
    | some o =>
      simp only [Option.bind_some]
      by_cases hd : o.dst = some t
      · rw [h m o (by omega) ho hd]
      · rw [if_neg (fun h => hd h.2), if_neg (fun h => hd h.2)]
end
end Mx
