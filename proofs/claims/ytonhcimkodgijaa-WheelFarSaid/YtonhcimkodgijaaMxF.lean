/-
  What leaves the heap alone, and does not look at it, comes to the same in the abstract machine and in the loaded program: the rest of it.
-/
import Derived.Test.YtonhcimkodgijaaMxE
namespace Mx
open Go

section
variable {P : Program} {e : En} {w : World}

theorem run_natIn {v : V} {x : Value} {most n : Nat} {code : BoundsCode} (h : natIn v most = some n) (r : R e v x) : (Instr.sliceBound x most code).run P w = .ok n w ∧ n ≤ most := by
  cases v <;> simp only [natIn] at h <;> try cases h
  split at h
  · rename_i hb
    cases h
    simp only [R] at r
    subst r
    refine ⟨?_, by omega⟩
    simp [Instr.sliceBound, asIntOf, hb]
  · cases h

theorem run_bounds {isS : Bool} {len cap : Nat} {lo hi mx : Option V} {lo' hi' mx' : Option Value} {l h m : Nat} (hb : bounds len cap lo hi mx = some (l, h, m)) (hlc : len ≤ cap)
    (rl : ∀ x, lo = some x → ∃ y, lo' = some y ∧ R e x y) (rl0 : lo = none → lo' = none)
    (rh : ∀ x, hi = some x → ∃ y, hi' = some y ∧ R e x y) (rh0 : hi = none → hi' = none)
    (rm : ∀ x, mx = some x → ∃ y, mx' = some y ∧ R e x y) (rm0 : mx = none → mx' = none) :
    (Instr.sliceBounds isS len cap lo' hi' mx').run P w = .ok (l, h, m) w ∧ l ≤ h ∧ h ≤ m ∧ m ≤ cap ∧ (mx = none → m = cap) ∧ (hi = none → h = len) := by
  unfold bounds at hb
  cases mx with
  | some m0 =>
    obtain ⟨m1, rfl, qm⟩ := rm m0 rfl
    cases hi with
    | none => simp at hb
    | some h0 =>
      obtain ⟨h1, rfl, qh⟩ := rh h0 rfl
      simp only at hb
      split at hb
      · rename_i mm hm
        split at hb
        · rename_i hh hhh
          obtain ⟨k1, k2⟩ := run_natIn (P := P) (w := w) (code := (if isS then .slice3Acap else .slice3Alen)) hm qm
          obtain ⟨k3, k4⟩ := run_natIn (P := P) (w := w) (code := .slice3B) hhh qh
          cases lo with
          | none =>
            rw [rl0 rfl]
            simp only at hb; cases hb
            refine ⟨?_, by omega, k4, k2, by simp, by simp⟩
            simp [Instr.sliceBounds, k1, k3]
          | some l0 =>
            obtain ⟨l1, rfl, ql⟩ := rl l0 rfl
            simp only at hb
            split at hb
            · rename_i ll hll
              cases hb
              obtain ⟨k5, k6⟩ := run_natIn (P := P) (w := w) (code := .slice3C) hll ql
              refine ⟨?_, k6, k4, k2, by simp, by simp⟩
              simp [Instr.sliceBounds, k1, k3, k5]
            · cases hb
        · cases hb
      · cases hb
  | none =>
    rw [rm0 rfl]
    cases hi with
    | none =>
      rw [rh0 rfl]
      simp only at hb
      cases lo with
      | none =>
        rw [rl0 rfl]
        simp only at hb; cases hb
        refine ⟨?_, by omega, hlc, by omega, by simp, by simp⟩
        simp [Instr.sliceBounds]
      | some l0 =>
        obtain ⟨l1, rfl, ql⟩ := rl l0 rfl
        simp only at hb
        split at hb
        · rename_i ll hll
          cases hb
          obtain ⟨k5, k6⟩ := run_natIn (P := P) (w := w) (code := .sliceB) hll ql
          refine ⟨?_, k6, hlc, by omega, by simp, by simp⟩
          simp [Instr.sliceBounds, k5]
        · cases hb
    | some h0 =>
      obtain ⟨h1, rfl, qh⟩ := rh h0 rfl
      simp only at hb
      split at hb
      · rename_i hh hhh
        obtain ⟨k3, k4⟩ := run_natIn (P := P) (w := w) (code := (if isS then .sliceAcap else .sliceAlen)) hhh qh
        cases lo with
        | none =>
          rw [rl0 rfl]
          simp only at hb; cases hb
          refine ⟨?_, by omega, k4, by omega, by simp, by simp⟩
          simp [Instr.sliceBounds, k3]
        | some l0 =>
          obtain ⟨l1, rfl, ql⟩ := rl l0 rfl
          simp only at hb
          split at hb
          · rename_i ll hll
            cases hb
            obtain ⟨k5, k6⟩ := run_natIn (P := P) (w := w) (code := .sliceB) hll ql
            refine ⟨?_, k6, k4, by omega, by simp, by simp⟩
            simp [Instr.sliceBounds, k3, k5]
          · cases hb
      · cases hb

/-- bounds within the length hold for any capacity that is not less -/
theorem bounds_cap {len c0 cap : Nat} {lo hi mx : Option V} {l h m : Nat} (hb : bounds len c0 lo hi mx = some (l, h, m)) (hc : c0 ≤ cap) :
    bounds len cap lo hi mx = some (l, h, if mx.isSome then m else cap) := by
  have nat : ∀ (v : V) (n a b : Nat), natIn v a = some n → a ≤ b → natIn v b = some n := by
    intro v n a b h1 h2
    cases v <;> simp only [natIn] at h1 ⊢ <;> try cases h1
    split at h1
    · rename_i hh; rw [if_pos (by omega)]; exact h1
    · cases h1
  unfold bounds at hb ⊢
  cases mx with
  | some m0 =>
    cases hi with
    | none => simp at hb
    | some h0 =>
      simp only at hb ⊢
      split at hb
      · rename_i mm hm
        rw [nat _ _ _ _ hm hc]
        simp only
        split at hb
        · rename_i hh hhh
          try simp only [hhh]
          cases lo with
          | none => simp only at hb ⊢; cases hb; simp
          | some l0 =>
            simp only at hb ⊢
            split at hb
            · cases hb; simp
            · cases hb
        · cases hb
      · cases hb
  | none =>
    cases hi with
    | none =>
      simp only at hb ⊢
      cases lo with
      | none => simp only at hb ⊢; cases hb; simp
      | some l0 =>
        simp only at hb ⊢
        split at hb
        · cases hb; simp
        · cases hb
    | some h0 =>
      simp only at hb ⊢
      split at hb
      · rename_i hh hhh
        rw [nat _ _ _ _ hhh hc]
        simp only
        cases lo with
        | none => simp only at hb ⊢; cases hb; simp
        | some l0 =>
          simp only at hb ⊢
          split at hb
          · cases hb; simp
          · cases hb
      · cases hb

/-- a slice that is cut: what Go gives -/
def cutS (a : Option Addr) (l h m esz : Nat) : Value := .slice (if m = l then a else a.map (·.add (l * esz))) (h - l) (m - l)

theorem addr_add (b o n : Nat) : (⟨b, o, none⟩ : Addr).add n = ⟨b, o + n, none⟩ := by
  unfold Addr.add; split <;> simp_all

theorem sim_cutOp {esz : Nat} (hz : 0 < esz) {id off len kn es : Nat} {v : V} {pl : Pl} {lo hi mx : Option V} (h : cutOp esz id off len kn es lo hi mx = some v) (hpl : e id = some pl) (hok : 0 < es ∧ off + pl.sh + kn * es ≤ pl.lim) (hkn : len ≤ kn)
    {lo' hi' mx' : Option Value}
    (rl : ∀ x, lo = some x → ∃ y, lo' = some y ∧ R e x y) (rl0 : lo = none → lo' = none)
    (rh : ∀ x, hi = some x → ∃ y, hi' = some y ∧ R e x y) (rh0 : hi = none → hi' = none)
    (rm : ∀ x, mx = some x → ∃ y, mx' = some y ∧ R e x y) (rm0 : mx = none → mx' = none) (isS : Bool) :
    ∃ a ln cap l hh m, Value.slice (some ⟨pl.blk, off + pl.sh, none⟩) len ((pl.lim - (off + pl.sh)) / es) = .slice a ln cap ∧ (Instr.sliceBounds isS ln cap lo' hi' mx').run P w = .ok (l, hh, m) w ∧ R e v (cutS a l hh m esz) := by
  unfold cutOp at h
  split at h
  · rename_i hes
    subst hes
    split at h
    · rename_i l hh m hb
      have hC : kn ≤ (pl.lim - (off + pl.sh)) / es := (Nat.le_div_iff_mul_le hok.1).2 (by omega)
      have hb' := bounds_cap hb hC
      obtain ⟨_, j2, j3, j4, j5, _⟩ := run_bounds (P := P) (w := w) (isS := isS) hb hkn rl rl0 rh rh0 rm rm0
      obtain ⟨k1, k2, k3, k4, _, _⟩ := run_bounds (P := P) (w := w) (isS := isS) hb' (Nat.le_trans hkn hC) rl rl0 rh rh0 rm rm0
      refine ⟨_, len, _, l, hh, _, rfl, k1, ?_⟩
      have e2 : (pl.lim - (off + pl.sh)) / es - l = (pl.lim - (off + l * es + pl.sh)) / es := by
        have e3 : pl.lim - (off + l * es + pl.sh) = pl.lim - (off + pl.sh) - es * l := by rw [Nat.mul_comm es l]; omega
        rw [e3, Nat.sub_mul_div]
      cases mx with
      | some m0 =>
        simp only [Option.isSome_some, if_true] at h ⊢
        by_cases hml : m = l
        · rw [if_pos hml] at h; cases h
          subst hml
          have : hh = m := by omega
          subst this
          simp [cutS, R]
        · rw [if_neg hml] at h; cases h
          simp only [cutS, if_neg hml, Option.map_some, R, addr_add]
          exact ⟨pl, hpl, by simp only [capOk]; omega, by simp only [capOf]; congr 3; omega⟩
      | none =>
        simp only [Option.isSome_none, Bool.false_eq_true, if_false] at h ⊢
        have hm : m = kn := j5 rfl
        have hhk : hh ≤ kn := by omega
        by_cases hl0 : l = 0
        · rw [if_pos hl0] at h; cases h
          subst hl0
          simp only [cutS, R]
          refine ⟨pl, hpl, capOk_mk hok.1 hhk hok.2, ?_⟩
          rw [capOf_mk]
          simp only [Nat.sub_zero, Nat.zero_mul]
          split <;> simp [addr_add]
        · rw [if_neg hl0] at h
          have hsum : l * es + (kn - l) * es = kn * es := by rw [← Nat.add_mul]; congr 1; omega
          by_cases hll : l = kn
          · rw [if_pos hll] at h; cases h
            have hh0 : hh - l = 0 := by omega
            simp only [cutS, R, hh0, e2]
            refine ⟨pl, hpl, hok.1, by omega, ?_⟩
            by_cases hcl : (pl.lim - (off + pl.sh)) / es = l
            · rw [if_pos hcl]
              have h0 : (pl.lim - (off + l * es + pl.sh)) / es = 0 := by omega
              exact .inr ⟨h0, _, by rw [h0]⟩
            · rw [if_neg hcl]
              refine .inl ?_
              simp only [Option.map_some, addr_add]
              have e4 : off + pl.sh + l * es = off + l * es + pl.sh := by omega
              rw [e4]
          · rw [if_neg hll] at h; cases h
            have hlt : l < kn := by omega
            have hne : ¬ ((pl.lim - (off + pl.sh)) / es = l) := by omega
            simp only [cutS, if_neg hne, Option.map_some, R, addr_add]
            refine ⟨pl, hpl, capOk_mk hok.1 (by omega) (by omega), ?_⟩
            rw [capOf_mk, e2]
            have e4 : off + pl.sh + l * es = off + l * es + pl.sh := by omega
            rw [e4]
    · cases h
  · cases h

/-- the value that a cut slice has, given that Go's own bounds are found -/
theorem sim_slcut {esz : Nat} (hz : 0 < esz) {x v : V} {y : Value} {lo hi mx : Option V} (h : slcut esz x lo hi mx = some v) (r : R e x y)
    {lo' hi' mx' : Option Value}
    (rl : ∀ x, lo = some x → ∃ y, lo' = some y ∧ R e x y) (rl0 : lo = none → lo' = none)
    (rh : ∀ x, hi = some x → ∃ y, hi' = some y ∧ R e x y) (rh0 : hi = none → hi' = none)
    (rm : ∀ x, mx = some x → ∃ y, mx' = some y ∧ R e x y) (rm0 : mx = none → mx' = none) (isS : Bool) :
    ∃ a len cap l hh m, y = .slice a len cap ∧ (Instr.sliceBounds isS len cap lo' hi' mx').run P w = .ok (l, hh, m) w ∧ R e v (cutS a l hh m esz) := by
  cases x with
  | nsl =>
    simp only [slcut] at h
    simp only [R] at r
    subst r
    split at h
    · rename_i t ht
      cases h
      obtain ⟨l, hh, m⟩ := t
      obtain ⟨k1, k2, k3, k4, _, _⟩ := run_bounds (P := P) (w := w) (isS := isS) ht (Nat.le_refl _) rl rl0 rh rh0 rm rm0
      refine ⟨none, 0, 0, l, hh, m, rfl, k1, ?_⟩
      have hm : m = 0 := by omega
      have hl : l = 0 := by omega
      have h0 : hh = 0 := by omega
      subst hm; subst hl; subst h0
      simp [cutS, R]
    · cases h
  | es z =>
    simp only [slcut] at h
    simp only [R] at r
    obtain ⟨a, c, rfl, hc⟩ := r
    split at h
    · rename_i t ht
      cases h
      obtain ⟨l, hh, m⟩ := t
      have hb := bounds_cap (cap := c) ht (Nat.zero_le _)
      obtain ⟨k0, k2, k3, k4, _, _⟩ := run_bounds (P := P) (w := w) (isS := isS) ht (Nat.le_refl _) rl rl0 rh rh0 rm rm0
      obtain ⟨k1, _⟩ := run_bounds (P := P) (w := w) (isS := isS) hb (Nat.zero_le _) rl rl0 rh rh0 rm rm0
      refine ⟨some a, 0, c, l, hh, _, rfl, k1, ?_⟩
      have hm : m = 0 := by omega
      have hl : l = 0 := by omega
      have h0 : hh = 0 := by omega
      subst hm; subst hl; subst h0
      simp only [cutS, R]
      cases mx with
      | some m0 => simp
      | none =>
        by_cases hc0 : c = 0
        · subst hc0; exact ⟨a, 0, by simp, fun _ => rfl⟩
        · exact ⟨a.add 0, c, by simp [hc0], fun hz' => hc (by simpa using hz')⟩
    · cases h
  | so id off es =>
    simp only [slcut] at h
    have r' := r
    obtain ⟨a, c, rfl, _⟩ := R_so r'
    split at h
    · rename_i t ht
      obtain ⟨l, hh, m⟩ := t
      have hb := bounds_cap (cap := c) ht (Nat.zero_le _)
      obtain ⟨k0, k2, k3, k4, _, _⟩ := run_bounds (P := P) (w := w) (isS := isS) ht (Nat.le_refl _) rl rl0 rh rh0 rm rm0
      obtain ⟨k1, _⟩ := run_bounds (P := P) (w := w) (isS := isS) hb (Nat.zero_le _) rl rl0 rh rh0 rm rm0
      refine ⟨some a, 0, c, l, hh, _, rfl, k1, ?_⟩
      have hm : m = 0 := by omega
      have hl : l = 0 := by omega
      have h0 : hh = 0 := by omega
      subst hm; subst hl; subst h0
      cases mx with
      | some m0 => simp only [Option.isSome_some, if_true] at h; cases h; simp [cutS, R]
      | none =>
        simp only [Option.isSome_none, Bool.false_eq_true, if_false] at h ⊢
        cases h
        have hc : cutS (some a) 0 0 c esz = .slice (some a) 0 c := by
          simp only [cutS, Nat.zero_mul, Option.map_some]
          have : a.add 0 = a := by cases a; simp [Addr.add]
          split <;> simp [this]
        rw [hc]; exact r
    · cases h
  | sl id off len c =>
    simp only [R] at r
    obtain ⟨pl, hpl, hok, rfl⟩ := r
    cases c with
    | ex cap =>
      simp only [slcut] at h
      simp only [capOk] at hok
      split at h
      · rename_i l hh m hb
        obtain ⟨k1, k2, k3, k4, _, _⟩ := run_bounds (P := P) (w := w) (isS := isS) hb hok rl rl0 rh rh0 rm rm0
        refine ⟨_, len, cap, l, hh, m, rfl, k1, ?_⟩
        by_cases hml : m = l
        · rw [if_pos hml] at h; cases h
          subst hml
          have : hh = m := by omega
          subst this
          simp [cutS, R]
        · rw [if_neg hml] at h; cases h
          simp only [cutS, if_neg hml, Option.map_some, R, addr_add]
          exact ⟨pl, hpl, by simp only [capOk]; omega, by simp only [capOf]; congr 3; omega⟩
      · cases h
    | op es =>
      simp only [slcut] at h
      exact sim_cutOp hz h hpl hok (Nat.le_refl _) rl rl0 rh rh0 rm rm0 isS
    | ol kn es =>
      simp only [slcut] at h
      exact sim_cutOp hz h hpl ⟨hok.1, hok.2.2⟩ hok.2.1 rl rl0 rh rh0 rm rm0 isS
  | _ => simp [slcut] at h

theorem run_min2 {x y z : V} {a b : Value} (h : min2 x y = some z) (ra : R e x a) (rb : R e y b) : ∃ c, (Builtin.min2 a b).run P w = .ok c w ∧ R e z c := by
  cases x <;> cases y <;> simp only [min2] at h <;> cases h
  simp only [R] at ra rb; subst ra; subst rb
  exact ⟨_, by simp only [Builtin.min2]; rfl, by simp only [R]⟩
theorem run_max2 {x y z : V} {a b : Value} (h : max2 x y = some z) (ra : R e x a) (rb : R e y b) : ∃ c, (Builtin.max2 a b).run P w = .ok c w ∧ R e z c := by
  cases x <;> cases y <;> simp only [max2] at h <;> cases h
  simp only [R] at ra rb; subst ra; subst rb
  exact ⟨_, by simp only [Builtin.max2]; rfl, by simp only [R]⟩
theorem run_fold {f : V → V → Option V} {g : Value → Value → Sem Value} (hfg : ∀ {x y z : V} {a b : Value}, f x y = some z → R e x a → R e y b → ∃ c, (g a b).run P w = .ok c w ∧ R e z c) :
    ∀ (l : List V) (vs : List Value) (x z : V) (a : Value), foldO f x l = some z → R e x a → RL e l vs → ∃ c, (vs.foldlM g a).run P w = .ok c w ∧ R e z c
  | [], vs, x, z, a, h, ra, rl => by
    rw [RL_nil_inv rl]
    simp only [foldO] at h; cases h
    exact ⟨a, by simp, ra⟩
  | y :: l, vs, x, z, a, h, ra, rl => by
    obtain ⟨b, r, rfl, rb, rl'⟩ := RL_cons_inv rl
    simp only [foldO] at h
    split at h
    · rename_i u hu
      obtain ⟨c, k1, k2⟩ := hfg hu ra rb
      obtain ⟨d, k3, k4⟩ := run_fold hfg l r u z c h k2 rl'
      exact ⟨d, by simp [List.foldlM_cons, k1, k3], k4⟩
    · cases h

theorem RL_lay {l m : List V} {vs us : List Value} (h : RL e l vs) (k : RL e m us) (off : Nat) : RL e (lay l off m) (vs.take off ++ us ++ vs.drop (off + us.length)) := by
  unfold lay
  rw [k.length]
  exact ((h.take off).append k).append (h.drop _)

theorem lay_length {l xs : List V} {off : Nat} (h : off + xs.length ≤ l.length) : (lay l off xs).length = l.length := by
  unfold lay; simp only [List.length_append, List.length_take, List.length_drop]; omega

/-- cells put one by one into a whole -/
theorem foldl_cells (off : Nat) (us : List Value) (cells : Array Value) (hb : off + us.length ≤ cells.size) :
    (us.toArray.zipIdx.foldl (fun cs (c, j) => cs.setIfInBounds (off + j) c) cells).toList = cells.toList.take off ++ us ++ cells.toList.drop (off + us.length) := by
  rw [← Array.foldl_toList]
  simp only [Array.toList_zipIdx]
  suffices ∀ (us : List Value) (k : Nat) (cells : Array Value), off + k + us.length ≤ cells.size →
      ((us.zipIdx k).foldl (fun cs (x : Value × Nat) => cs.setIfInBounds (off + x.2) x.1) cells).toList = cells.toList.take (off + k) ++ us ++ cells.toList.drop (off + k + us.length) by
    have := this us 0 cells (by simpa using hb)
    simpa using this
  intro us
  induction us with
  | nil => intro k cells _; simp
  | cons u us ih =>
    intro k cells hb
    simp only [List.length_cons] at hb
    simp only [List.zipIdx_cons, List.foldl_cons]
    rw [ih (k + 1) _ (by simp; omega)]
    have hk : off + k < cells.toList.length := by simp; omega
    simp only [Array.toList_setIfInBounds]
    have e1 : (cells.toList.set (off + k) u).take (off + (k + 1)) = cells.toList.take (off + k) ++ [u] := by
      rw [show off + (k + 1) = (off + k) + 1 by omega, List.take_succ_eq_append_getElem (by simpa using hk)]
      simp [List.take_set_of_le]
    have e2 : (cells.toList.set (off + k) u).drop (off + (k + 1) + us.length) = cells.toList.drop (off + k + (u :: us).length) := by
      rw [List.drop_set_of_lt (by omega)]
      congr 1
      simp; omega
    rw [e1, e2]
    simp

theorem sim_fill {place : Nat → Option (Nat × Nat)} {gs : Nat} (hg : Glob e gs) {ts : T} {a : Act} (hr : RL e ts a.tmps.toList) : ∀ (parts : List (Nat × Operand)) (ps : List (Nat × Nat × Opd)) (cells out : List V) (C : Array Value),
    trParts gs place parts = some ps → fill cells (ps.map fun p => (p.1, p.2.1, opd ts p.2.2)) = some out → RL e cells C.toList →
    ∃ C', Instr.fill place C (parts.map fun p => (p.1, a.eval p.2)) = some C' ∧ RL e out C'.toList
  | [], ps, cells, out, C, hp, hf, hc => by
    simp only [trParts] at hp; cases hp
    simp only [List.map_nil, fill] at hf; cases hf
    exact ⟨C, rfl, hc⟩
  | (i, x) :: l, ps, cells, out, C, hp, hf, hc => by
    simp only [trParts] at hp
    split at hp
    · rename_i o s y r h1 h2 h3
      cases hp
      simp only [List.map_cons, fill] at hf
      split at hf
      · cases hf
      · rename_i hne
        have hs : (opd ts y).cells.length = s := Decidable.byContradiction fun h => hne (.inl h)
        have hb : o + (opd ts y).cells.length ≤ cells.length := Nat.le_of_not_lt fun h => hne (.inr h)
        have ry := R_cells (trO_R hg hr h2)
        have hlen := ry.length
        have hclen := hc.length
        simp only [Array.length_toList] at hclen hlen
        have hfold := foldl_cells o (a.eval x).cells.toList C (by simp only [Array.length_toList]; omega)
        simp only [Array.toArray_toList] at hfold
        obtain ⟨C', k1, k2⟩ := sim_fill hg hr l r _ out ((a.eval x).cells.zipIdx.foldl (fun cs (c, j) => cs.setIfInBounds (o + j) c) C) h3 hf (by rw [hfold]; exact RL_lay hc ry o)
        refine ⟨C', ?_, k2⟩
        simp only [List.map_cons, Instr.fill, h1]
        have q1 : (a.eval x).cells.size = s := by omega
        have q2 : ¬ (o + (a.eval x).cells.size > C.size) := by omega
        rw [if_neg (by simp [q1]; omega)]
        exact k1
    · cases hp
end
end Mx
