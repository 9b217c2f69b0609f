/-
  A statement whose operations may come up in more than one order: it comes to what the text's order comes to.
-/
import Derived.Test.YtonhcimkodgijaaMxM
namespace Mx
open Go

theorem trOpers_get {P : Program} {gs : Nat} {ops : Array Oper} : ∀ {l : List Oper} {il : List IOp}, trOpers P gs ops l = some il → il.length = l.length ∧ ∀ (i : Nat) (o : Oper), l[i]? = some o → ∃ io, il[i]? = some io ∧ trOper P gs ops o = some io
  | [], il, h => by simp only [trOpers] at h; cases h; exact ⟨rfl, fun i o h => by simp at h⟩
  | o :: l, il, h => by
    simp only [trOpers] at h
    split at h
    · rename_i x r h1 h2
      cases h
      obtain ⟨k1, k2⟩ := trOpers_get h2
      refine ⟨by simp [k1], fun i oi hi => ?_⟩
      cases i with
      | zero => simp at hi; subst hi; exact ⟨x, rfl, h1⟩
      | succ i => obtain ⟨io, h3, h4⟩ := k2 i oi (by simpa using hi); exact ⟨io, by simpa using h3, h4⟩
    · cases h

section
variable {P : Program} {gs : Nat} {C : Nat → List V → H → Option (V × H)} {ops : Array Oper} {il : List IOp} {pairs : List (Nat × Nat)} {S : Nat → T × H} {e0 : En} {w0 : World} {ds : List Deferred}

def add (D : Nat → Bool) (j : Nat) : Nat → Bool := fun i => if i = j then true else D i
def isAl (o : IOp) : Bool := match o.op with
  | .al _ => true
  | _ => false

theorem steps_nx (hN : NxMono C) (hS : Steps1 C il S) : ∀ d a, a + d ≤ il.length → (S a).2.nx ≤ (S (a + d)).2.nx
  | 0, _, _ => Nat.le_refl _
  | d + 1, a, h => by
    have ho : il[a + d]? = some il[a + d] := List.getElem?_eq_getElem (by omega)
    exact Nat.le_trans (steps_nx hN hS d a (by omega)) (iop_nx hN (hS _ _ ho))

theorem steps_wf (hN : NxMono C) (hS : Steps1 C il S) (k : HWf (S 0).2) : ∀ i, i ≤ il.length → HWf (S i).2
  | 0, _ => k
  | i + 1, h => by
    have ho : il[i]? = some il[i] := List.getElem?_eq_getElem (by omega)
    exact iop_wf hN (hS _ _ ho) (steps_wf hN hS k i (by omega))

theorem new_load {h : H} (k : O) {id off n : Nat} (hid : id < h.nx) : (h.new k).load id off n = h.load id off n := by
  unfold H.load
  rw [H.get_new, if_neg (by omega)]

theorem alloc_load {ts : T} {h h' : H} {o : AO} {v : V} (hx : alloc1 ts h o = some (v, h')) {id off n : Nat} (hid : id < h.nx) : h'.load id off n = h.load id off n := by
  unfold alloc1 at hx
  repeat' (split at hx)
  all_goals first
    | (cases hx; done)
    | (cases hx; exact new_load _ hid)

/-- what making a row does -/
theorem alloc_new {ts : T} {h h' : H} {o : AO} {v : V} (hx : alloc1 ts h o = some (v, h')) : ∃ r, h' = h.new r ∧ r.ro = false ∧ (∀ h2 : H, h2.nx = h.nx → alloc1 ts h2 o = some (v, h2.new r)) ∧ (∀ e v', R e v v' → ∃ pl, e h.nx = some pl) := by
  unfold alloc1 at hx ⊢
  cases o with
  | box x =>
    simp only at hx ⊢
    split at hx
    · rename_i hc
      cases hx
      refine ⟨_, rfl, rfl, fun h2 hn => by rw [if_pos hc, hn], fun e v' r => ?_⟩
      simp only [R] at r
      obtain ⟨pl, h1, _⟩ := r
      exact ⟨pl, h1⟩
    · cases hx
  | zero z =>
    cases hx
    refine ⟨_, rfl, rfl, fun h2 hn => by simp only [hn], fun e v' r => ?_⟩
    simp only [R] at r
    obtain ⟨pl, h1, _⟩ := r
    exact ⟨pl, h1⟩
  | sl len cells parts =>
    simp only at hx ⊢
    split at hx
    · rename_i l hl
      cases hx
      refine ⟨_, rfl, rfl, fun h2 hn => by simp only [hn], fun e v' r => ?_⟩
      simp only [R] at r
      obtain ⟨pl, h1, _⟩ := r
      exact ⟨pl, h1⟩
    · cases hx
  | mks bytes z len =>
    simp only at hx ⊢
    split at hx
    · rename_i k n hn'
      split at hx
      · rename_i hc
        cases hx
        refine ⟨_, rfl, rfl, fun h2 hn => by rw [hn]; first | rw [if_pos hc] | (split <;> simp_all), fun e v' r => ?_⟩
        simp only [R] at r
        obtain ⟨pl, h1, _⟩ := r
        exact ⟨pl, h1⟩
      · cases hx
    · cases hx

/-- rows below a number alone -/
def Tr.filt {α : Type} (p : Nat → Bool) : Tr α → Nat → Nat → Tr α
  | .l, _, _ => .l
  | .n x v y, a, b => .n (Tr.filt p x (2 * a) (a + b)) (if p b then v else none) (Tr.filt p y (2 * a) (2 * a + b))
theorem Tr.get_filt {α : Type} (p : Nat → Bool) : ∀ (t : Tr α) (a b k : Nat), (Tr.filt p t a b).get k = if p (a * k + b) then t.get k else none
  | .l, a, b, k => by simp [Tr.filt, Tr.get]
  | .n x v y, a, b, k => by
    simp only [Tr.filt, Tr.get]
    by_cases h0 : k = 0
    · subst h0; simp
    · simp only [h0, if_false]
      by_cases h1 : k % 2 = 1
      · simp only [h1, if_true]
        rw [Tr.get_filt p x (2 * a) (a + b) (k / 2)]
        have e : 2 * a * (k / 2) + (a + b) = a * k + b := by
          have : k = 2 * (k / 2) + 1 := by omega
          have h2 : a * k = a * (2 * (k / 2) + 1) := congrArg (a * ·) this
          rw [h2, Nat.mul_add, Nat.mul_one, Nat.mul_comm 2 a, Nat.mul_assoc, Nat.add_assoc]
        rw [e]
      · simp only [h1, if_false]
        rw [Tr.get_filt p y (2 * a) (2 * a + b) (k / 2 - 1)]
        have e : 2 * a * (k / 2 - 1) + (2 * a + b) = a * k + b := by
          have : k = 2 * (k / 2 - 1) + 2 := by omega
          have h2 : a * k = a * (2 * (k / 2 - 1) + 2) := congrArg (a * ·) this
          rw [h2, Nat.mul_add, Nat.mul_comm 2 a, Nat.mul_assoc, Nat.mul_comm a 2, Nat.add_assoc]
        rw [e]
def H.cut (h : H) (m : Nat) : H := ⟨m, Tr.filt (fun k => decide (k < m)) h.tr 1 0⟩
theorem H.get_cut (h : H) (m k : Nat) : (h.cut m).get k = if k < m then h.get k else none := by
  unfold H.cut H.get
  simp only
  rw [Tr.get_filt, Nat.one_mul, Nat.add_zero]
  by_cases hk : k < m
  · simp [hk]
  · simp [hk]
theorem H.nx_cut (h : H) (m : Nat) : (h.cut m).nx = m := rfl
/-- fewer rows -/
theorem Sim.less {e : En} {h h' : H} {w : World} (s : Sim e h w) (hsub : ∀ id o pl, h'.get id = some o → e id = some pl → h.get id = some o) (hlow : ∀ id, h'.nx ≤ id → h'.get id = none) : Sim e h' w :=
  ⟨fun id o pl h1 h2 => s.obj id o pl (hsub id o pl h1 h2) h2, fun i j oi oj pi pj hij hi hro hj hpi hpj => s.inj i j oi oj pi pj hij (hsub i oi pi hi hpi) hro (hsub j oj pj hj hpj) hpi hpj, hlow⟩

theorem range_of (nxS : Nat → Nat) : ∀ (d t : Nat) (id : Nat), nxS t ≤ id → id < nxS (t + d) → ∃ i, t ≤ i ∧ i < t + d ∧ nxS i ≤ id ∧ id < nxS (i + 1)
  | 0, t, id, h1, h2 => by rw [Nat.add_zero] at h2; omega
  | d + 1, t, id, h1, h2 => by
    by_cases h : id < nxS (t + d)
    · obtain ⟨i, a, b, c, e⟩ := range_of nxS d t id h1 h
      exact ⟨i, a, by omega, c, e⟩
    · exact ⟨t + d, by omega, by omega, by omega, by rw [Nat.add_assoc]; exact h2⟩

/-- the heap that stands for the world: as far as what changes it is done; and the rows that are made already -/
structure Gs (il : List IOp) (S : Nat → T × H) (D : Nat → Bool) (t : Nat) (e : En) (G : H) : Prop where
  nx : G.nx = (S il.length).2.nx
  g1 : ∀ id, id < (S t).2.nx → G.get id = (S t).2.get id
  g2 : ∀ i o, t ≤ i → il[i]? = some o → D i = true → isAl o = true → ∀ id, (S i).2.nx ≤ id → id < (S (i + 1)).2.nx → G.get id = (S (i + 1)).2.get id
  g3 : ∀ i o, t ≤ i → il[i]? = some o → D i = false → ∀ id, (S i).2.nx ≤ id → id < (S (i + 1)).2.nx → G.get id = none
  fr : ∀ i, i < il.length → D i = false → Fresh e (S i).2.nx (S (i + 1)).2.nx
  old : ∀ i o, i < t → il[i]? = some o → D i = false → isAl o = true → ∀ id, (S i).2.nx ≤ id → id < (S (i + 1)).2.nx → (S t).2.get id = (S (i + 1)).2.get id

/-- what holds when these operations are done -/
def Inv (il : List IOp) (S : Nat → T × H) (e0 : En) (w0 : World) (ds : List Deferred) (D : Nat → Bool) (a : Act) (w : World) : Prop :=
  ∃ (t : Nat) (e : En) (G : H), t ≤ il.length ∧ (∀ i o, il[i]? = some o → isEff o = true → (D i = true ↔ i < t)) ∧
    a.tmps.size = (S 0).1.length ∧ (∀ t, t < (S 0).1.length → R e (val il S D il.length t) (a.tmps.getD t undef)) ∧ Sim e G w ∧ St e0 (S 0).2 w0 e G w ∧ Gs il S D t e G ∧ a.defers = ds

/-- a step that makes a row -/
theorem al_heap (hS : Steps1 C il S) {i : Nat} {o : IOp} (ho : il[i]? = some o) (ha : isAl o = true) : (S (i + 1)).2 = (S i).2 ∨ ∃ r, (S (i + 1)).2 = (S i).2.new r ∧ r.ro = false := by
  have hs := hS i o ho
  unfold iop at hs
  split at hs
  · split at hs
    · rename_i v h' hv
      have e := congrArg Prod.snd (Option.some.inj hs)
      simp only at e
      obtain ⟨d, op, g⟩ := o
      cases op with
      | al x =>
        simp only [op1] at hv
        obtain ⟨r, h1, h2, _⟩ := alloc_new hv
        exact .inr ⟨r, by rw [← e, h1], h2⟩
      | _ => simp [isAl] at ha
    · cases hs
  · exact .inl (congrArg Prod.snd (Option.some.inj hs)).symm
  · cases hs

/-- rows that stay while no effect comes -/
theorem calm_rows (hS : Steps1 C il S) (hN : NxMono C) : ∀ (d t : Nat), t + d ≤ il.length → (∀ i o, t ≤ i → i < t + d → il[i]? = some o → isEff o = false) → ∀ id, id < (S t).2.nx → (S (t + d)).2.get id = (S t).2.get id
  | 0, t, _, _, id, _ => rfl
  | d + 1, t, hl, hc, id, hid => by
    have ih := calm_rows hS hN d t (by omega) (fun i o h1 h2 => hc i o h1 (by omega)) id hid
    have ho : il[t + d]? = some il[t + d] := List.getElem?_eq_getElem (by omega)
    have hne := hc (t + d) _ (by omega) (by omega) ho
    rw [← ih, ← Nat.add_assoc]
    by_cases ha : isAl il[t + d] = true
    · rcases al_heap hS ho ha with h1 | ⟨r, h1, _⟩
      · rw [h1]
      · have := steps_nx hN hS d t (by omega)
        rw [h1, H.get_new, if_neg (by omega)]
    · have hh : heapy il[t + d] = false := by
        revert hne ha
        unfold isEff isAl heapy
        cases il[t + d].op <;> simp
      rw [same_heap hS ho (.inl hh)]

/-- what an alloc's rows are later on, while no effect comes -/
theorem Gs.sub (hS : Steps1 C il S) (hN : NxMono C) {D : Nat → Bool} {t u : Nat} {e : En} {G : H} (g : Gs il S D t e G) (htu : t ≤ u) (hu : u ≤ il.length) (hc : ∀ i o, t ≤ i → i < u → il[i]? = some o → isEff o = false)
    {id : Nat} {o : O} {pl : Pl} (hid : (S u).2.get id = some o) (hp : e id = some pl) (hw : HWf (S u).2) : G.get id = some o := by
  have hlt : id < (S u).2.nx := Nat.lt_of_not_le fun h => by rw [hw id h] at hid; cases hid
  by_cases h1 : id < (S t).2.nx
  · have := calm_rows hS hN (u - t) t (by omega) (fun i o h2 h3 => hc i o h2 (by omega)) id h1
    rw [show t + (u - t) = u by omega] at this
    rw [g.g1 id h1, ← this, hid]
  · obtain ⟨i, a, b, c, d⟩ := range_of (fun i => (S i).2.nx) (u - t) t id (by omega) (by rw [show t + (u - t) = u by omega]; exact hlt)
    have hi : i < il.length := by omega
    have ho : il[i]? = some il[i] := List.getElem?_eq_getElem hi
    have hD : D i = true := by
      cases hDi : D i with
      | true => rfl
      | false => rw [g.fr i hi hDi id c d] at hp; cases hp
    have hne := hc i _ a (by omega) ho
    have ha : isAl il[i] = true := by
      cases hal : isAl il[i] with
      | true => rfl
      | false =>
        have hh : heapy il[i] = false := by
          revert hne hal
          unfold isEff isAl heapy
          cases il[i].op <;> simp
        rw [same_heap hS ho (.inl hh)] at d; omega
    rw [g.g2 i _ a ho hD ha id c d]
    have := calm_rows hS hN (u - (i + 1)) (i + 1) (by omega) (fun k o h2 h3 => hc k o (by omega) (by omega)) id d
    rw [show i + 1 + (u - (i + 1)) = u by omega] at this
    rw [← this, hid]
/-- two heaps: below a number the one's rows, from it on the other's -/
def Tr.over {α : Type} : Tr α → Tr α → Tr α
  | .l, y => y
  | x, .l => x
  | .n a v b, .n a' v' b' => .n (Tr.over a a') (match v with | some u => some u | none => v') (Tr.over b b')
theorem Tr.get_over {α : Type} : ∀ (x y : Tr α) (k : Nat), (Tr.over x y).get k = match x.get k with | some u => some u | none => y.get k
  | .l, y, k => by simp [Tr.over, Tr.get]
  | .n a v b, .l, k => by
    simp only [Tr.over]
    have : (Tr.l : Tr α).get k = none := by simp [Tr.get]
    rw [this]
    cases (Tr.n a v b).get k <;> rfl
  | .n a v b, .n a' v' b', k => by
    simp only [Tr.over, Tr.get]
    by_cases h0 : k = 0
    · simp only [h0, if_true]
    · simp only [h0, if_false]
      by_cases h1 : k % 2 = 1
      · simp only [h1, if_true]; exact Tr.get_over a a' _
      · simp only [h1, if_false]; exact Tr.get_over b b' _
def H.mix (x y : H) (m : Nat) : H := ⟨y.nx, Tr.over (Tr.filt (fun k => decide (k < m)) x.tr 1 0) (Tr.filt (fun k => decide (m ≤ k)) y.tr 1 0)⟩
theorem H.get_mix (x y : H) (m k : Nat) : (x.mix y m).get k = if k < m then x.get k else y.get k := by
  unfold H.mix H.get
  simp only
  rw [Tr.get_over, Tr.get_filt, Tr.get_filt, Nat.one_mul, Nat.add_zero]
  by_cases hk : k < m
  · have : ¬ m ≤ k := by omega
    simp only [hk, this, decide_true, decide_false, if_true, if_false, Bool.false_eq_true]
    cases x.tr.get k <;> rfl
  · have : m ≤ k := by omega
    simp only [hk, this, decide_true, decide_false, if_true, if_false, Bool.false_eq_true]
theorem H.nx_mix (x y : H) (m : Nat) : (x.mix y m).nx = y.nx := rfl

theorem nx_le (hN : NxMono C) (hS : Steps1 C il S) {i k : Nat} (hik : i ≤ k) (hk : k ≤ il.length) : (S i).2.nx ≤ (S k).2.nx := by
  have := steps_nx hN hS (k - i) i (by omega)
  rwa [show i + (k - i) = k by omega] at this

/-- a row that is made already, and is not reached yet, is one's own -/
theorem Gs.own (hS : Steps1 C il S) {D : Nat → Bool} {t : Nat} {e : En} {G : H} (g : Gs il S D t e G) (htn : t ≤ il.length) {id : Nat} {r : O} (hid : (S t).2.nx ≤ id) (hr : G.get id = some r) (hlow : ∀ id, G.nx ≤ id → G.get id = none) (heff : ∀ i o, il[i]? = some o → isEff o = true → (D i = true ↔ i < t)) : r.ro = false := by
  have hlt : id < (S il.length).2.nx := Nat.lt_of_not_le fun h => by rw [hlow id (by rw [g.nx]; exact h)] at hr; cases hr
  obtain ⟨i, a, b, c, d⟩ := range_of (fun i => (S i).2.nx) (il.length - t) t id hid (by rw [show t + (il.length - t) = il.length by omega]; exact hlt)
  have ho : il[i]? = some il[i] := List.getElem?_eq_getElem (by omega)
  cases hD : D i with
  | false => rw [g.g3 i _ a ho hD id c d] at hr; cases hr
  | true =>
    cases ha : isAl il[i] with
    | true =>
      rw [g.g2 i _ a ho hD ha id c d] at hr
      rcases al_heap hS ho ha with h1 | ⟨r', h1, h2⟩
      · rw [h1] at d; omega
      · rw [h1, H.get_new] at hr
        rw [h1, H.nx_new] at d
        rw [if_pos (by omega)] at hr
        cases hr; exact h2
    | false =>
      cases he : isEff il[i] with
      | true => have := (heff i _ ho he).1 hD; omega
      | false =>
        have hh : heapy il[i] = false := by
          revert he ha
          unfold isEff isAl heapy
          cases il[i].op <;> simp
        rw [same_heap hS ho (.inl hh)] at d; omega

/-- what changes the heap comes -/
theorem eff_step (hS : Steps1 C il S) (hN : NxMono C) (hwf : HWf (S 0).2) {D : Nat → Bool} {t j : Nat} {e e' : En} {G : H} {w w' : World} (g : Gs il S D t e G) (hsim : Sim e G w) (hst : St e0 (S 0).2 w0 e G w)
    (heff : ∀ i o, il[i]? = some o → isEff o = true → (D i = true ↔ i < t)) (htj : t ≤ j) (hj : j < il.length) (hc : ∀ i o, t ≤ i → i < j → il[i]? = some o → isEff o = false) (hDj : D j = false) (hje : isAl il[j] = false)
    (s' : Sim e' (S (j + 1)).2 w') (st : St e (S j).2 w e' (S (j + 1)).2 w') : ∃ G', Sim e' G' w' ∧ St e0 (S 0).2 w0 e' G' w' ∧ Gs il S (add D j) (j + 1) e' G' := by
  have hwfj := steps_wf hN hS hwf j (by omega)
  have hsub : ∀ {id : Nat} {o : O} {pl : Pl}, (S j).2.get id = some o → e id = some pl → G.get id = some o := fun h1 h2 => g.sub hS hN htj (by omega) hc h1 h2 hwfj
  have n1 := nx_le hN hS (show t ≤ j from htj) (by omega)
  have n2 := nx_le hN hS (show j ≤ j + 1 by omega) (by omega)
  have n3 := nx_le hN hS (show j + 1 ≤ il.length by omega) (Nat.le_refl _)
  have n0 := nx_le hN hS (show 0 ≤ t by omega) (by omega)
  have hgj : (S j).2.nx ≤ (S (j + 1)).2.nx := n2
  obtain ⟨m, hm⟩ : ∃ m, m = (S (j + 1)).2.nx := ⟨_, rfl⟩
  have eBack : ∀ {id : Nat} {pl : Pl}, m ≤ id → e' id = some pl → e id = some pl := by
    intro id pl hid hp
    cases hi : e id with
    | none =>
      have := st.dom id hi (by rw [hp]; simp)
      omega
    | some q => have := st.le id q hi; rw [hp] at this; exact this.symm
  have own : ∀ {id : Nat} {r : O}, m ≤ id → G.get id = some r → r.ro = false := fun hid hr => g.own hS (by omega) (by omega) hr hsim.low heff
  have imgG : ∀ {b : Nat}, Img e (S j).2 b → Img e G b := by
    rintro b ⟨id, o, pl, h1, h2, h3, h4⟩
    exact ⟨id, o, pl, hsub h1 h3, h2, h3, h4⟩
  have anyG : ∀ {b : Nat}, Any e (S j).2 b → Any e G b := by
    rintro b ⟨id, o, pl, h1, h3, h4⟩
    exact ⟨id, o, pl, hsub h1 h3, h3, h4⟩
  have hget : ∀ id, ((S (j + 1)).2.mix G m).get id = if id < m then (S (j + 1)).2.get id else G.get id := H.get_mix _ _ _
  have rowlt : ∀ {id : Nat} {o : O}, (S j).2.get id = some o → id < (S j).2.nx := fun h => Nat.lt_of_not_le fun hn => by rw [hwfj _ hn] at h; cases h
  refine ⟨(S (j + 1)).2.mix G m, ⟨?_, ?_, ?_⟩, ⟨hst.le.trans st.le, ?_, ?_, ?_, ?_, Nat.le_trans hst.size st.size, st.os.trans hst.os, st.tape.trans hst.tape, st.output.trans hst.output, ?_, ?_⟩, ⟨?_, ?_, ?_, ?_, ?_, ?_⟩⟩
  · intro id o pl h1 h2
    rw [hget] at h1
    by_cases hid : id < m
    · rw [if_pos hid] at h1; exact s'.obj id o pl h1 h2
    · rw [if_neg hid] at h1
      have h3 := eBack (by omega) h2
      have h4 := hsim.obj id o pl h1 h3
      refine h4.mono st.le (st.keep _ h4.lt ?_)
      rintro ⟨id2, o2, pl2, k1, k2, k3, k4⟩
      have := rowlt k1
      exact hsim.inj id2 id o2 o pl2 pl (by omega) (hsub k1 k3) k2 h1 k3 h3 k4
  · intro i k oi ok pi pk hik hi hro hk hpi hpk
    rw [hget] at hi hk
    have cross : ∀ {i k : Nat} {oi ok : O} {pi pk : Pl}, i < m → m ≤ k → (S (j + 1)).2.get i = some oi → G.get k = some ok → e' i = some pi → e' k = some pk → pi.blk ≠ pk.blk := by
      intro i k oi ok pi pk h1 h2 h3 h4 h5 h6
      have h7 := eBack h2 h6
      have h8 := (hsim.obj k ok pk h4 h7).lt
      rcases st.any pi.blk ⟨i, oi, pi, h3, h5, rfl⟩ with ⟨id2, o2, pl2, k1, k3, k4⟩ | h9
      · have := rowlt k1
        have := hsim.inj k id2 ok o2 pk pl2 (by omega) h4 (own h2 h4) (hsub k1 k3) h7 k3
        rw [← k4]; exact fun h => this h.symm
      · omega
    by_cases h1 : i < m
    · rw [if_pos h1] at hi
      by_cases h2 : k < m
      · rw [if_pos h2] at hk; exact s'.inj i k oi ok pi pk hik hi hro hk hpi hpk
      · rw [if_neg h2] at hk; exact cross h1 (by omega) hi hk hpi hpk
    · rw [if_neg h1] at hi
      by_cases h2 : k < m
      · rw [if_pos h2] at hk; exact fun h => cross h2 (by omega) hk hi hpk hpi h.symm
      · rw [if_neg h2] at hk
        exact hsim.inj i k oi ok pi pk hik hi hro hk (eBack (by omega) hpi) (eBack (by omega) hpk)
  · intro id hid
    rw [H.nx_mix] at hid
    rw [hget, if_neg (by rw [g.nx] at hid; omega)]
    exact hsim.low id hid
  · intro id h0 h1
    rw [H.nx_mix, g.nx]
    by_cases h2 : e id = none
    · have := st.dom id h2 h1
      have := hst.nx
      omega
    · have := hst.dom id h0 h2
      rw [g.nx] at this; exact this
  · rw [H.nx_mix]; exact hst.nx
  · rintro b ⟨id, o, pl, h1, h2, h3, h4⟩
    rw [hget] at h1
    by_cases hid : id < m
    · rw [if_pos hid] at h1
      rcases st.img b ⟨id, o, pl, h1, h2, h3, h4⟩ with h5 | h5
      · exact hst.img b (imgG h5)
      · exact .inr (Nat.le_trans hst.size h5)
    · rw [if_neg hid] at h1
      exact hst.img b ⟨id, o, pl, h1, h2, eBack (by omega) h3, h4⟩
  · intro b hb hn
    rw [st.keep b (Nat.lt_of_lt_of_le hb hst.size) (fun h => by
      rcases hst.img b (imgG h) with h5 | h5
      · exact hn h5
      · omega)]
    exact hst.keep b hb hn
  · rintro b ⟨id, o, pl, h1, h3, h4⟩
    rw [hget] at h1
    by_cases hid : id < m
    · rw [if_pos hid] at h1
      rcases st.any b ⟨id, o, pl, h1, h3, h4⟩ with h5 | h5
      · exact hst.any b (anyG h5)
      · exact .inr (Nat.le_trans hst.size h5)
    · rw [if_neg hid] at h1
      exact hst.any b ⟨id, o, pl, h1, eBack (by omega) h3, h4⟩
  · intro id hid h0
    have he : e id = none := Decidable.byContradiction fun hne => by
      have := hst.dom id h0 hne
      omega
    rw [hget, if_pos (by omega), st.out id (by omega) he]
    have := calm_rows hS hN (j - t) t (by omega) (fun i o h2 h3 => hc i o h2 (by omega)) id (by omega)
    rw [show t + (j - t) = j by omega] at this
    rw [this, ← g.g1 id (by omega)]
    exact hst.out id hid h0
  · rw [H.nx_mix]; exact g.nx
  · intro id hid
    rw [hget, if_pos (by omega)]
  · intro i o hi ho hD ha id h1 h2
    have hij : i ≠ j := by omega
    unfold add at hD
    rw [if_neg hij] at hD
    have h3 := nx_le hN hS (show j + 1 ≤ i by omega) (by have := (List.getElem?_eq_some_iff.1 ho).1; omega)
    rw [hget, if_neg (by omega)]
    exact g.g2 i o (by omega) ho hD ha id h1 h2
  · intro i o hi ho hD id h1 h2
    have hij : i ≠ j := by omega
    unfold add at hD
    rw [if_neg hij] at hD
    have h3 := nx_le hN hS (show j + 1 ≤ i by omega) (by have := (List.getElem?_eq_some_iff.1 ho).1; omega)
    rw [hget, if_neg (by omega)]
    exact g.g3 i o (by omega) ho hD id h1 h2
  · intro i hi hD id h1 h2
    by_cases hij : i = j
    · subst hij; simp [add] at hD
    · unfold add at hD
      rw [if_neg hij] at hD
      have h3 := g.fr i hi hD id h1 h2
      refine Decidable.byContradiction fun hne => ?_
      have h4 := st.dom id h3 hne
      by_cases hlt : i < j
      · have := nx_le hN hS (show i + 1 ≤ j by omega) (by omega); omega
      · have := nx_le hN hS (show j + 1 ≤ i by omega) (by omega); omega
  · intro i o hi ho hD ha id h1 h2
    have hij : i ≠ j := by rintro rfl; simp [add] at hD
    unfold add at hD
    rw [if_neg hij] at hD
    have hil : i < il.length := (List.getElem?_eq_some_iff.1 ho).1
    have h3 := g.fr i hil hD id h1 h2
    have h4 := nx_le hN hS (show i + 1 ≤ j by omega) (by omega)
    rw [st.out id (by omega) h3]
    by_cases hit : i < t
    · have h5 := nx_le hN hS (show i + 1 ≤ t by omega) (by omega)
      have := calm_rows hS hN (j - t) t (by omega) (fun i o h2 h3 => hc i o h2 (by omega)) id (by omega)
      rw [show t + (j - t) = j by omega] at this
      rw [this]
      exact g.old i o hit ho hD ha id h1 h2
    · have := calm_rows hS hN (j - (i + 1)) (i + 1) (by omega) (fun k o h2 h3 => hc k o (by omega) (by omega)) id h2
      rw [show i + 1 + (j - (i + 1)) = j by omega] at this
      exact this
/-- a row is made -/
theorem al_step (hS : Steps1 C il S) (hN : NxMono C) {D : Nat → Bool} {t j : Nat} {e e' : En} {G : H} {w w' : World} {r : O} {pl : Pl} (g : Gs il S D t e G) (hsim : Sim e G w) (hst : St e0 (S 0).2 w0 e G w)
    (hj : j < il.length) (hDj : D j = false) (hja : isAl il[j] = true) (hr : (S (j + 1)).2 = (S j).2.new r) (hro : r.ro = false)
    (s' : Sim e' ((G.cut (S j).2.nx).new r) w') (st : St e (G.cut (S j).2.nx) w e' ((G.cut (S j).2.nx).new r) w') (hp : e' (S j).2.nx = some pl) : ∃ G', Sim e' G' w' ∧ St e0 (S 0).2 w0 e' G' w' ∧ Gs il S (add D j) t e' G' := by
  obtain ⟨m, hm⟩ : ∃ m, m = (S j).2.nx := ⟨_, rfl⟩
  rw [← hm] at s' st hp
  have hm1 : (S (j + 1)).2.nx = m + 1 := by rw [hr, H.nx_new, hm]
  have n3 := nx_le hN hS (show j + 1 ≤ il.length by omega) (Nat.le_refl _)
  have n0 := nx_le hN hS (show 0 ≤ j by omega) (by omega)
  have hnew : ∀ id, ((G.cut m).new r).get id = if id = m then some r else if id < m then G.get id else none := by
    intro id
    rw [H.get_new, H.nx_cut, H.get_cut]
  have eBack : ∀ {id : Nat} {q : Pl}, id ≠ m → e' id = some q → e id = some q := by
    intro id q hid hq
    cases hi : e id with
    | none =>
      have := st.dom id hi (by rw [hq]; simp)
      rw [H.nx_cut, H.nx_new, H.nx_cut] at this
      omega
    | some q' => have := st.le id q' hi; rw [hq] at this; exact this.symm
  have em : e m = none := g.fr j hj hDj m (by omega) (by omega)
  have imgG : ∀ {b : Nat}, Img e (G.cut m) b → Img e G b := by
    rintro b ⟨id, o, q, h1, h2, h3, h4⟩
    rw [H.get_cut] at h1
    by_cases h5 : id < m
    · rw [if_pos h5] at h1; exact ⟨id, o, q, h1, h2, h3, h4⟩
    · rw [if_neg h5] at h1; cases h1
  have hbig : w.heap.size ≤ pl.blk := by
    rcases st.img pl.blk ⟨m, r, pl, by rw [hnew, if_pos rfl], hro, hp, rfl⟩ with ⟨id2, o2, q2, h1, h2, h3, h4⟩ | h
    · exfalso
      rw [H.get_cut] at h1
      by_cases h5 : id2 < m
      · rw [if_pos h5] at h1
        exact s'.inj id2 m o2 r q2 pl (by omega) (by rw [hnew, if_neg (by omega), if_pos h5]; exact h1) h2 (by rw [hnew, if_pos rfl]) (st.le id2 q2 h3) hp h4
      · rw [if_neg h5] at h1; cases h1
    · exact h
  have hget : ∀ id, (G.put m (some r)).get id = if id = m then some r else G.get id := fun id => H.get_put _ _ _ _
  refine ⟨G.put m (some r), ⟨?_, ?_, ?_⟩, ⟨hst.le.trans st.le, ?_, ?_, ?_, ?_, Nat.le_trans hst.size st.size, st.os.trans hst.os, st.tape.trans hst.tape, st.output.trans hst.output, ?_, ?_⟩, ⟨?_, ?_, ?_, ?_, ?_, ?_⟩⟩
  · intro id o q h1 h2
    rw [hget] at h1
    by_cases hid : id = m
    · rw [if_pos hid] at h1
      subst hid
      exact s'.obj id o q (by rw [hnew, if_pos rfl]; exact h1) h2
    · rw [if_neg hid] at h1
      by_cases h3 : id < m
      · exact s'.obj id o q (by rw [hnew, if_neg hid, if_pos h3]; exact h1) h2
      · have h4 := eBack hid h2
        have h5 := hsim.obj id o q h1 h4
        refine h5.mono st.le (st.keep _ h5.lt ?_)
        rintro ⟨id2, o2, q2, k1, k2, k3, k4⟩
        rw [H.get_cut] at k1
        by_cases h6 : id2 < m
        · rw [if_pos h6] at k1
          exact hsim.inj id2 id o2 o q2 q (by omega) k1 k2 h1 k3 h4 k4
        · rw [if_neg h6] at k1; cases k1
  · intro i k oi ok pi pk hik hi hroi hk hpi hpk
    rw [hget] at hi hk
    by_cases h1 : i = m
    · subst h1
      have h2 : k ≠ i := fun h => hik h.symm
      rw [if_neg h2] at hk
      rw [hp] at hpi; cases hpi
      have := (hsim.obj k ok pk hk (eBack h2 hpk)).lt
      omega
    · rw [if_neg h1] at hi
      have hpi' := eBack h1 hpi
      by_cases h2 : k = m
      · subst h2
        rw [hp] at hpk; cases hpk
        have := (hsim.obj i oi pi hi hpi').lt
        omega
      · rw [if_neg h2] at hk
        exact hsim.inj i k oi ok pi pk hik hi hroi hk hpi' (eBack h2 hpk)
  · intro id hid
    rw [H.nx_put, g.nx] at hid
    rw [hget, if_neg (by omega)]
    exact hsim.low id (by rw [g.nx]; exact hid)
  · intro id h0 h1
    rw [H.nx_put, g.nx]
    by_cases h2 : id = m
    · omega
    · have h3 : e id ≠ none := by
        obtain ⟨q, hq⟩ := Option.ne_none_iff_exists'.1 h1
        rw [eBack h2 hq]; simp
      have := hst.dom id h0 h3
      rw [g.nx] at this; exact this
  · rw [H.nx_put]; exact hst.nx
  · rintro b ⟨id, o, q, h1, h2, h3, rfl⟩
    rw [hget] at h1
    by_cases hid : id = m
    · subst hid
      rw [hp] at h3; cases h3
      exact .inr (Nat.le_trans hst.size hbig)
    · rw [if_neg hid] at h1
      exact hst.img _ ⟨id, o, q, h1, h2, eBack hid h3, rfl⟩
  · intro b hb hn
    rw [st.keep b (Nat.lt_of_lt_of_le hb hst.size) (fun h => by
      rcases hst.img b (imgG h) with h5 | h5
      · exact hn h5
      · omega)]
    exact hst.keep b hb hn
  · rintro b ⟨id, o, q, h1, h3, rfl⟩
    rw [hget] at h1
    by_cases hid : id = m
    · subst hid
      rw [hp] at h3; cases h3
      exact .inr (Nat.le_trans hst.size hbig)
    · rw [if_neg hid] at h1
      exact hst.any _ ⟨id, o, q, h1, eBack hid h3, rfl⟩
  · intro id hid h0
    rw [hget, if_neg (by omega)]
    exact hst.out id hid h0
  · rw [H.nx_put]; exact g.nx
  · intro id hid
    rw [hget]
    by_cases h : id = m
    · subst h
      rw [if_pos rfl]
      have hjt : j < t := Nat.lt_of_not_le fun h => by have := nx_le hN hS h (by omega); omega
      rw [g.old j _ hjt (List.getElem?_eq_getElem hj) hDj hja id (by omega) (by omega), hr, H.get_new, if_pos (by omega)]
    · rw [if_neg h]; exact g.g1 id hid
  · intro i o hi ho hD ha id h1 h2
    rw [hget]
    by_cases hij : i = j
    · subst hij
      have : id = m := by omega
      subst this
      rw [if_pos rfl, hr, H.get_new, if_pos (by omega)]
    · unfold add at hD
      rw [if_neg hij] at hD
      have hil : i < il.length := (List.getElem?_eq_some_iff.1 ho).1
      have : id ≠ m := by
        rintro rfl
        by_cases hlt : i < j
        · have := nx_le hN hS (show i + 1 ≤ j by omega) (by omega); omega
        · have := nx_le hN hS (show j + 1 ≤ i by omega) (by omega); omega
      rw [if_neg this]
      exact g.g2 i o hi ho hD ha id h1 h2
  · intro i o hi ho hD id h1 h2
    have hij : i ≠ j := by rintro rfl; simp [add] at hD
    unfold add at hD
    rw [if_neg hij] at hD
    have hil : i < il.length := (List.getElem?_eq_some_iff.1 ho).1
    have : id ≠ m := by
      rintro rfl
      by_cases hlt : i < j
      · have := nx_le hN hS (show i + 1 ≤ j by omega) (by omega); omega
      · have := nx_le hN hS (show j + 1 ≤ i by omega) (by omega); omega
    rw [hget, if_neg this]
    exact g.g3 i o hi ho hD id h1 h2
  · intro i hi hD id h1 h2
    have hij : i ≠ j := by rintro rfl; simp [add] at hD
    unfold add at hD
    rw [if_neg hij] at hD
    have h3 := g.fr i hi hD id h1 h2
    refine Decidable.byContradiction fun hne => ?_
    obtain ⟨q, hq⟩ := Option.ne_none_iff_exists'.1 hne
    have : id ≠ m := by
      rintro rfl
      by_cases hlt : i < j
      · have := nx_le hN hS (show i + 1 ≤ j by omega) (by omega); omega
      · have := nx_le hN hS (show j + 1 ≤ i by omega) (by omega); omega
    rw [eBack this hq] at h3; cases h3
  · intro i o hi ho hD ha id h1 h2
    have hij : i ≠ j := by rintro rfl; simp [add] at hD
    unfold add at hD
    rw [if_neg hij] at hD
    exact g.old i o hi ho hD ha id h1 h2

/-- what does not change the heap comes -/
theorem Gs.stay {D : Nat → Bool} {t j : Nat} {e e' : En} {G : H} (g : Gs il S D t e G) (hn : ∀ id, (S j).2.nx ≤ id → id < (S (j + 1)).2.nx → isAl <$> il[j]? ≠ some true) (he : ∀ id, e id = none → id < G.nx → e' id = none)
    (hb : ∀ i, i ≤ il.length → (S i).2.nx ≤ (S il.length).2.nx) : Gs il S (add D j) t e' G := by
  refine ⟨g.nx, g.g1, fun i o hi ho hD ha id h1 h2 => ?_, fun i o hi ho hD id h1 h2 => ?_, fun i hi hD id h1 h2 => ?_, fun i o hi ho hD ha id h1 h2 => ?_⟩
  · by_cases hij : i = j
    · subst hij
      exact absurd (by rw [ho]; simp [ha]) (hn id h1 h2)
    · unfold add at hD
      rw [if_neg hij] at hD
      exact g.g2 i o hi ho hD ha id h1 h2
  · have hij : i ≠ j := by rintro rfl; simp [add] at hD
    unfold add at hD
    rw [if_neg hij] at hD
    exact g.g3 i o hi ho hD id h1 h2
  · have hij : i ≠ j := by rintro rfl; simp [add] at hD
    unfold add at hD
    rw [if_neg hij] at hD
    have := hb (i + 1) (by omega)
    exact he id (g.fr i hi hD id h1 h2) (by rw [g.nx]; omega)
  · have hij : i ≠ j := by rintro rfl; simp [add] at hD
    unfold add at hD
    rw [if_neg hij] at hD
    exact g.old i o hi ho hD ha id h1 h2
theorem draw_step (hC : CallOK P gs C) (hN : NxMono C) (htr : trOpers P gs ops ops.toList = some il) (hS : Steps1 C il S)
    (hsteady : ∀ (l k : Nat) (ol ok : IOp), (l, k) ∈ pairs → il[l]? = some ol → il[k]? = some ok → ∀ agg n x, ol.op = .ld agg n x → wants (S l).1 ol.guard = some true → ∀ id off, opd (S l).1 x = .p (some (id, off)) → (S k).2.nx ≤ id ∨ ∃ c, (S k).2.load id off (if agg then n else 1) = some c ∧ (S (k + 1)).2.load id off (if agg then n else 1) = some c)
    (hwf : HWf (S 0).2) (hok : drawOK ops il pairs = true) (hg0 : Glob e0 gs)
    {D : Nat → Bool} (hcl : Closed ops D) {j : Nat} {o : Oper} (ho : ops[j]? = some o) (hnj : D j = false) (hdj : ∀ d ∈ dirs o, D d = true) (hDn : ∀ i, il.length ≤ i → D i = false)
    {a : Act} {w : World} (hinv : Inv il S e0 w0 ds D a w) {K : Act → World → Prop} {Q : Exit → Act → World → Prop} (hK : ∀ a' w', Inv il S e0 w0 ds (add D j) a' w' → K a' w') : wpOp P ops Q j K a w := by
  obtain ⟨hil, hget⟩ := trOpers_get htr
  obtain ⟨io, hio, hto⟩ := hget j o (by simpa using ho)
  have hn : il.length = ops.size := by rw [hil]; simp
  have hj : j < ops.size := (Array.getElem?_eq_some_iff.1 ho).1
  obtain ⟨hdlt, hpair⟩ := drawOK_spec hok
  obtain ⟨t0, e, G, htn, heff, hsz, hval, hsim, hst, hG, hds⟩ := hinv
  have hbefore : ∀ i, bef ops i j = true → D i = true := closed_bef hcl j o ho hdj
  have hafter : ∀ i, D i = true → bef ops j i = true → False := by
    intro i hi hb
    have hil' : i < il.length := Nat.lt_of_not_le fun h => by rw [hDn i h] at hi; cases hi
    have hoi : ops[i]? = some ops[i] := Array.getElem?_eq_getElem (by omega)
    have := closed_bef hcl i _ hoi (hcl i _ hoi hi) j hb
    rw [hnj] at this; cases this
  have pairs_of : ∀ (i : Nat) (oi : IOp), i ≠ j → il[i]? = some oi → (i < j → pairOK ops il pairs i j = true) ∧ (j < i → pairOK ops il pairs j i = true) := by
    intro i oi hij hoi
    have hi : i < il.length := (List.getElem?_eq_some_iff.1 hoi).1
    exact ⟨fun h => hpair i j h hj, fun h => hpair j i h (by omega)⟩
  -- who clashes with j is done, or is not yet
  have ordered : ∀ (i : Nat) (oi : IOp), i ≠ j → il[i]? = some oi → ((i < j → clash oi io = true) ∧ (j < i → clash io oi = true) ∨ (isEff oi = true ∧ isEff io = true)) → (i < j → D i = true) ∧ (j < i → D i = false) := by
    intro i oi hij hoi hc
    obtain ⟨p1, p2⟩ := pairs_of i oi hij hoi
    refine ⟨fun h => ?_, fun h => ?_⟩
    · have := p1 h
      unfold pairOK at this
      rw [hoi, hio] at this
      simp only [Bool.or_eq_true, Bool.and_eq_true, Bool.not_eq_true'] at this
      rcases this with hb | ⟨⟨⟨h1, h2⟩, _⟩, _⟩
      · exact hbefore i hb
      · rcases hc with hc | ⟨hc1, hc2⟩
        · rw [hc.1 h] at h1; cases h1
        · rw [hc1, hc2] at h2; cases h2
    · have := p2 h
      unfold pairOK at this
      rw [hoi, hio] at this
      simp only [Bool.or_eq_true, Bool.and_eq_true, Bool.not_eq_true'] at this
      rcases this with hb | ⟨⟨⟨h1, h2⟩, _⟩, _⟩
      · cases hDi : D i with
        | false => rfl
        | true => exact (hafter i hDi hb).elim
      · rcases hc with hc | ⟨hc1, hc2⟩
        · rw [hc.2 h] at h1; cases h1
        · rw [hc2, hc1] at h2; cases h2
  have wr_of : ∀ {t : Nat} {l : List Nat} {x : IOp}, x.dst = some t → t ∈ l → wr x l = true := by
    intro t l x hx ht
    unfold wr; rw [hx]; simpa using ht
  have hlen : (S j).1.length = (S 0).1.length := frame_length hS j (by omega)
  -- what j reads
  have reads : ∀ t ∈ io.rd, val il S D il.length t = (S j).1.getD t undefV := by
    intro t ht
    have key : ∀ (i : Nat) (oi : IOp), i ≠ j → il[i]? = some oi → oi.dst = some t → (i < j → D i = true) ∧ (j < i → D i = false) := by
      intro i oi hij hoi hd
      refine ordered i oi hij hoi (.inl ⟨fun _ => ?_, fun _ => ?_⟩)
      · unfold clash; rw [wr_of hd ht]; rfl
      · unfold clash; rw [wr_of hd ht]; simp
    have := val_at hS (D := D) (j := j) (t := t) (fun i oi h1 h2 h3 => (key i oi (by omega) h2 h3).1 h1)
      (fun i oi h1 h2 h3 => by
        by_cases hij : i = j
        · subst hij; exact hnj
        · exact (key i oi hij h2 h3).2 (by omega)) il.length (Nat.le_refl _)
    rw [Nat.min_eq_right (by omega)] at this
    exact this
  -- the frame as the abstract machine has it
  let T' : T := (List.range (S 0).1.length).map (val il S D il.length)
  have hT'l : T'.length = (S 0).1.length := by simp [T']
  have hT' : ∀ t, t < (S 0).1.length → T'.getD t undefV = val il S D il.length t := by
    intro t ht
    simp only [T', List.getD_eq_getElem?_getD, List.getElem?_map, List.getElem?_range ht, Option.map_some, Option.getD_some]
  have hagree : Agree io.rd T' (S j).1 := by
    intro t ht
    by_cases hlt : t < (S 0).1.length
    · rw [hT' t hlt]; exact reads t ht
    · simp only [List.getD_eq_getElem?_getD]
      rw [List.getElem?_eq_none (by omega), List.getElem?_eq_none (by omega)]
  have hrel : RL e T' a.tmps.toList := by
    refine RL.of (by simp [hT'l, hsz]) fun t x hx => ?_
    have hlt : t < (S 0).1.length := by rw [← hT'l]; exact (List.getElem?_eq_some_iff.1 hx).1
    have h1 := hval t hlt
    rw [← hT' t hlt] at h1
    simp only [List.getD_eq_getElem?_getD, hx, Option.getD_some] at h1
    have hlt2 : t < a.tmps.size := by omega
    refine ⟨a.tmps[t], by simp [hlt2], ?_⟩
    simpa [hlt2] using h1
  have hwant : wants T' io.guard = wants (S j).1 io.guard := wants_congr (by rw [hT'l, hlen]) fun t x hx => hagree t (by unfold IOp.rd; rw [hx]; simp)
  have hopr : Agree io.op.rd T' (S j).1 := fun t ht => hagree t (by unfold IOp.rd; simp [ht])
  -- the new frame's values
  have newval : ∀ v, (S (j + 1)).1 = putT (S j).1 io.dst v → ∀ t, t < (S 0).1.length → val il S (add D j) il.length t = if io.dst = some t then v else val il S D il.length t := by
    intro v hv t ht
    by_cases hd : io.dst = some t
    · rw [if_pos hd]
      have key : ∀ (i : Nat) (oi : IOp), i ≠ j → il[i]? = some oi → oi.dst = some t → (i < j → D i = true) ∧ (j < i → D i = false) := by
        intro i oi hij hoi hdi
        refine ordered i oi hij hoi (.inl ⟨fun _ => ?_, fun _ => ?_⟩)
        · unfold clash; rw [hd, hdi]; simp
        · unfold clash; rw [hd, hdi]; simp
      have := val_at hS (D := add D j) (j := j + 1) (t := t)
        (fun i oi h1 h2 h3 => by
          unfold add
          by_cases hij : i = j
          · rw [if_pos hij]
          · rw [if_neg hij]; exact (key i oi hij h2 h3).1 (by omega))
        (fun i oi h1 h2 h3 => by
          unfold add
          rw [if_neg (by omega)]
          exact (key i oi (by omega) h2 h3).2 (by omega)) il.length (Nat.le_refl _)
      rw [this, Nat.min_eq_right (by omega), hv, hd, putT_same (by omega)]
    · rw [if_neg hd]
      refine val_congr il.length fun i oi _ h2 h3 => ?_
      unfold add
      rw [if_neg]
      rintro rfl
      rw [hio] at h2; cases h2
      exact hd h3
  have finish : ∀ (v : V) (v' : Value) (t1 : Nat) (e' : En) (G' : H) (w' : World), (S (j + 1)).1 = putT (S j).1 io.dst v → Le e e' → R e' v v' → t1 ≤ il.length → (∀ i o, il[i]? = some o → isEff o = true → (add D j i = true ↔ i < t1)) → Sim e' G' w' → St e0 (S 0).2 w0 e' G' w' → Gs il S (add D j) t1 e' G' →
      Inv il S e0 w0 ds (add D j) (a.put io.dst v') w' := by
    intro v v' t1 e' G' w' hv hle rv h1 h2 hs' hst' hg'
    refine ⟨t1, e', G', h1, h2, ?_, ?_, hs', hst', hg', by rw [put_defers]; exact hds⟩
    · cases io.dst <;> simp [Act.put, hsz]
    · intro t ht
      rw [newval v hv t ht]
      by_cases hd : io.dst = some t
      · rw [if_pos hd, hd]
        have : (a.put (some t) v').tmps.getD t undef = v' := by
          simp only [Act.put, Array.getD_eq_getD_getElem?]
          rw [Array.getElem?_setIfInBounds_self_of_lt (by omega)]; rfl
        rw [this]; exact rv
      · rw [if_neg hd]
        have : (a.put io.dst v').tmps.getD t undef = a.tmps.getD t undef := by
          cases hio' : io.dst with
          | none => rfl
          | some d =>
            have hne : d ≠ t := fun h => hd (by rw [hio', h])
            simp only [Act.put, Array.getD_eq_getD_getElem?, Array.getElem?_setIfInBounds_ne hne]
        rw [this]; exact R.mono hle _ _ (hval t ht)
  have hjl : j < il.length := by omega
  have hbn : ∀ i, i ≤ il.length → (S i).2.nx ≤ (S il.length).2.nx := fun i hi => nx_le hN hS hi (Nat.le_refl _)
  -- who changes the heap, where j does
  have eff_ord : isEff io = true → ∀ (i : Nat) (oi : IOp), i ≠ j → il[i]? = some oi → isEff oi = true → (i < j → D i = true) ∧ (j < i → D i = false) := fun hh i oi hij hoi hhi => ordered i oi hij hoi (.inr ⟨hhi, hh⟩)
  have eff_t : isEff io = true → t0 ≤ j ∧ (∀ i o, t0 ≤ i → i < j → il[i]? = some o → isEff o = false) ∧ ∀ i o, il[i]? = some o → isEff o = true → (add D j i = true ↔ i < j + 1) := by
    intro hh
    refine ⟨?_, ?_, ?_⟩
    · refine Nat.le_of_not_lt fun hlt => ?_
      have := (heff j io hio hh).2 hlt
      rw [hnj] at this; cases this
    · intro i o h1 h2 h3
      cases hi : isEff o with
      | false => rfl
      | true =>
        have := (eff_ord hh i o (by omega) h3 hi).1 h2
        have := (heff i o h3 hi).1 this
        omega
    · intro i o h1 h2
      unfold add
      by_cases hij : i = j
      · rw [if_pos hij]; exact ⟨fun _ => by omega, fun _ => rfl⟩
      · rw [if_neg hij]
        constructor
        · intro h3
          refine Nat.lt_of_not_le fun h4 => ?_
          rw [(eff_ord hh i o hij h1 h2).2 (by omega)] at h3; cases h3
        · intro h3
          exact (eff_ord hh i o hij h1 h2).1 (by omega)
  have eff_same : isEff io = false → ∀ i o, il[i]? = some o → isEff o = true → (add D j i = true ↔ i < t0) := by
    intro hh i o h1 h2
    have hij : i ≠ j := by rintro rfl; rw [hio] at h1; cases h1; rw [hh] at h2; cases h2
    unfold add
    rw [if_neg hij]
    exact heff i o h1 h2
  have jl : il[j] = io := by
    have := List.getElem?_eq_getElem hjl
    rw [hio] at this; exact (Option.some.inj this).symm
  have hwfj := steps_wf hN hS hwf j (by omega)
  -- now the step
  have hstep := hS j io hio
  unfold wpOp
  rw [ho]
  simp only
  simp only [trOper] at hto
  split at hto
  · rename_i op g hop hgd
    cases hto
    obtain ⟨b, hw1, hw2⟩ := wants_sound hrel (ops := ops) hgd
    simp only at hwant hw1
    rw [hw2]
    rw [hw1] at hwant
    cases b with
    | false =>
      simp only [Bool.false_eq_true, if_false]
      have hsh : (S (j + 1)).2 = (S j).2 := same_heap hS hio (.inr hwant.symm)
      have hfr : (S (j + 1)).1 = putT (S j).1 o.dst undefV := by
        unfold iop at hstep
        simp only at hstep
        rw [← hwant] at hstep
        exact (congrArg Prod.fst (Option.some.inj hstep)).symm
      cases hh : isEff ({ dst := o.dst, op := op, guard := g } : IOp) with
      | false =>
        exact hK _ _ (finish undefV undef t0 e G w hfr (Le.refl _) (R_undef e) htn (eff_same hh) hsim hst (hG.stay (fun id h1 h2 => by rw [hsh] at h2; omega) (fun _ h _ => h) hbn))
      | true =>
        obtain ⟨q1, q2, q3⟩ := eff_t hh
        have sj : Sim e (S j).2 w := hsim.less (fun id o pl h1 h2 => hG.sub hS hN q1 (by omega) q2 h1 h2 hwfj) hwfj
        obtain ⟨G', r1, r2, r3⟩ := eff_step hS hN hwf hG hsim hst heff q1 hjl q2 hnj (by rw [jl]; revert hh; unfold isEff isAl; cases op <;> simp) (e' := e) (w' := w) (by rw [hsh]; exact sj) (by rw [hsh]; exact St.refl _ _ _)
        exact hK _ _ (finish undefV undef (j + 1) e G' w hfr (Le.refl _) (R_undef e) (by omega) q3 r1 r2 r3)
    | true =>
      simp only [if_true]
      unfold iop at hstep
      simp only at hstep
      rw [← hwant] at hstep
      simp only at hstep
      split at hstep
      · rename_i v h' hv
        have hfr : (S (j + 1)).1 = putT (S j).1 o.dst v := (congrArg Prod.fst (Option.some.inj hstep)).symm
        have hhp : (S (j + 1)).2 = h' := (congrArg Prod.snd (Option.some.inj hstep)).symm
        rw [← op1_congr hopr] at hv
        have hglob : Glob e gs := hg0.mono hst.le
        refine .inl ?_
        have calm : ∀ {x : Op}, op = x → isEff ({ dst := o.dst, op := op, guard := g } : IOp) = false → isAl ({ dst := o.dst, op := op, guard := g } : IOp) = false → op1 C T' G op = some (v, G) → o.wp P a w (fun a' w' => K a' w') (fun e' a' w' => Q e' a' w') := by
          intro x _ h1 h2 h3
          refine op_sound hglob hrel hop hC h3 hsim (fun id h1 h2 => by omega) fun v' w' ⟨e', q1, q2, q3⟩ => hK _ _ (finish v v' t0 e' G w' hfr q3.le q1 htn (eff_same h1) q2 (hst.trans q3) (hG.stay (fun id _ _ => by rw [hio]; simp [h2]) (fun id h4 h5 => Decidable.byContradiction fun hne => by have := q3.dom id h4 hne; omega) hbn))
        cases op with
        | ef x =>
          obtain ⟨q1, q2, q3⟩ := eff_t rfl
          have sj : Sim e (S j).2 w := hsim.less (fun id o pl h1 h2 => hG.sub hS hN q1 (by omega) q2 h1 h2 hwfj) hwfj
          refine op_sound hglob hrel hop hC hv sj (by rw [← hhp]; exact hG.fr j hjl hnj) fun v' w' ⟨e', u1, u2, u3⟩ => ?_
          rw [← hhp] at u2 u3
          obtain ⟨G', r1, r2, r3⟩ := eff_step hS hN hwf hG hsim hst heff q1 hjl q2 hnj (by rw [jl]; rfl) u2 u3
          exact hK _ _ (finish v v' (j + 1) e' G' w' hfr u3.le u1 (by omega) q3 r1 r2 r3)
        | al x =>
          simp only [op1] at hv
          obtain ⟨r, h1, h2, h3, h4⟩ := alloc_new hv
          have hr : (S (j + 1)).2 = (S j).2.new r := by rw [hhp, h1]
          have hv2 : op1 C T' (G.cut (S j).2.nx) (.al x) = some (v, (G.cut (S j).2.nx).new r) := h3 _ rfl
          have hfj := hG.fr j hjl hnj
          have sc : Sim e (G.cut (S j).2.nx) w := hsim.less (fun id o pl h1 h2 => by
            rw [H.get_cut] at h1
            split at h1
            · exact h1
            · cases h1) (fun id hid => by
            rw [H.get_cut, if_neg (by rw [H.nx_cut] at hid; omega)])
          refine op_sound hglob hrel hop hC hv2 sc (by rw [H.nx_cut, H.nx_new, H.nx_cut]; rw [hr, H.nx_new] at hfj; exact hfj) fun v' w' ⟨e', u1, u2, u3⟩ => ?_
          obtain ⟨pl, hpl⟩ := h4 e' v' u1
          obtain ⟨G', r1, r2, r3⟩ := al_step hS hN hG hsim hst hjl hnj (by rw [jl]; rfl) hr h2 u2 u3 hpl
          exact hK _ _ (finish v v' t0 e' G' w' hfr u3.le u1 htn (eff_same rfl) r1 r2 r3)
        | pu x =>
          refine calm rfl rfl rfl ?_
          simp only [op1] at hv ⊢
          split at hv
          · rename_i u hu; cases hv; rfl
          · cases hv
        | ld agg n x =>
          refine calm rfl rfl rfl ?_
          simp only [op1] at hv ⊢
          split at hv
          · rename_i u hu
            cases hv
            have : load1 T' G agg n x = load1 T' (S j).2 agg n x := by
              -- the cell's place
              have haddr : ∃ id off pl, opd T' x = .p (some (id, off)) ∧ e id = some pl := by
                unfold load1 at hu
                split at hu
                · rename_i id off hx
                  unfold trOp1 at hop
                  split at hop
                  · split at hop
                    · obtain ⟨y, h1, h2⟩ := o1_inv hop
                      cases h2
                      have := trO_R hglob hrel h1
                      rw [hx] at this; simp only [R] at this
                      obtain ⟨pl, hpl, _⟩ := this
                      exact ⟨id, off, pl, hx, hpl⟩
                    · cases hop
                  · split at hop
                    · cases hop
                    · split at hop
                      · cases hop
                      · split at hop
                        · cases hop
                        · split at hop <;> cases hop
                · cases hu
              obtain ⟨id, off, pl, hadd, hpl⟩ := haddr
              have hsome : ∃ c, (S j).2.load id off (if agg then n else 1) = some c := by
                unfold load1 at hu
                rw [hadd] at hu
                simp only at hu
                cases agg with
                | true =>
                  simp only [if_true] at hu ⊢
                  split at hu
                  · rename_i c hc; exact ⟨c, hc⟩
                  · cases hu
                | false =>
                  simp only [Bool.false_eq_true, if_false] at hu ⊢
                  split at hu
                  · rename_i c hc; exact ⟨_, hc⟩
                  · cases hu
              have hidj : id < (S j).2.nx := by
                obtain ⟨c, hc⟩ := hsome
                obtain ⟨o', ho', _⟩ := load_inv hc
                refine Nat.lt_of_not_le fun hge => ?_
                rw [hwfj id hge] at ho'; cases ho'
              have hop' : opd (S j).1 x = .p (some (id, off)) := by rw [← opd_congr hopr]; exact hadd
              have one : ∀ (k : Nat) (ok : IOp), il[k]? = some ok → heapy ok = true → k ≠ j → (k < j → isEff ok = true → D k = false) → (j < k → isEff ok = true → D k = true) → id < (S k).2.nx → (S k).2.load id off (if agg then n else 1) = (S (k + 1)).2.load id off (if agg then n else 1) := by
                intro k ok hok' hhk hkj hb1 hb2 hidk
                have hstepk := hS k ok hok'
                obtain ⟨p1, p2⟩ := pairs_of k ok hkj hok'
                cases hopk : ok.op with
                | pu y => simp [heapy, hopk] at hhk
                | ld _ _ y => simp [heapy, hopk] at hhk
                | al y =>
                  unfold iop at hstepk
                  split at hstepk
                  · split at hstepk
                    · rename_i v1 h1 hv1
                      have e1 := congrArg Prod.snd (Option.some.inj hstepk)
                      simp only at e1
                      rw [← e1]
                      rw [hopk] at hv1
                      simp only [op1] at hv1
                      exact (alloc_load hv1 hidk).symm
                    · cases hstepk
                  · have e1 := congrArg Prod.snd (Option.some.inj hstepk)
                    simp only at e1
                    rw [← e1]
                  · cases hstepk
                | ef y =>
                  have hek : isEff ok = true := by simp [isEff, hopk]
                  have hin : (j, k) ∈ pairs := by
                    by_cases hlt : k < j
                    · have := p1 hlt
                      unfold pairOK at this
                      rw [hok', hio] at this
                      simp only [Bool.or_eq_true, Bool.and_eq_true, Bool.not_eq_true'] at this
                      rcases this with hb | ⟨_, h4⟩
                      · rw [hbefore k hb] at hb1; exact absurd (hb1 hlt hek) (by simp)
                      · rcases h4 with h4 | h4
                        · simp [isEff, isLd, hopk] at h4
                        · simpa using h4
                    · have hlt : j < k := by omega
                      have := p2 hlt
                      unfold pairOK at this
                      rw [hok', hio] at this
                      simp only [Bool.or_eq_true, Bool.and_eq_true, Bool.not_eq_true'] at this
                      rcases this with hb | ⟨⟨_, h3⟩, _⟩
                      · exact (hafter k (hb2 hlt hek) hb).elim
                      · rcases h3 with h3 | h3
                        · simp [isEff, isLd, hopk] at h3
                        · simpa using h3
                  rcases hsteady j k _ ok hin hio hok' agg n x rfl hwant.symm id off hop' with h1 | ⟨c, h1, h2⟩
                  · omega
                  · rw [h1, h2]
              -- from a state of the text's order to j's
              have chainUp : ∀ (m : Nat), m ≤ j → t0 ≤ m → id < (S m).2.nx → (S m).2.load id off (if agg then n else 1) = (S j).2.load id off (if agg then n else 1) := by
                intro m hmj htm hidm
                have := through hS (id := id) (off := off) (n := if agg then n else 1) (j - m) m (by omega) (fun k ok h1 h2 h3 h4 => by
                  have hnx := nx_le hN hS (show m ≤ k from h1) (by omega)
                  refine one k ok h3 h4 (by omega) (fun _ hek => ?_) (fun h => by omega) (by omega)
                  cases hDk : D k with
                  | false => rfl
                  | true => have := (heff k ok h3 hek).1 hDk; omega)
                rw [show m + (j - m) = j by omega] at this
                exact this
              have loadG : ∀ (k : H), G.get id = k.get id → G.load id off (if agg then n else 1) = k.load id off (if agg then n else 1) := by
                intro k hk
                unfold H.load
                rw [hk]
              have hchain : G.load id off (if agg then n else 1) = (S j).2.load id off (if agg then n else 1) := by
                by_cases hlow : id < (S t0).2.nx
                · rw [loadG _ (hG.g1 id hlow)]
                  by_cases hle : t0 ≤ j
                  · exact chainUp t0 hle (Nat.le_refl _) hlow
                  · have := through hS (id := id) (off := off) (n := if agg then n else 1) (t0 - j) j (by omega) (fun k ok h1 h2 h3 h4 => by
                      have hnx := nx_le hN hS (show j ≤ k from h1) (by omega)
                      have hkj : k ≠ j := by
                        rintro rfl
                        rw [hio] at h3; cases h3
                        simp [heapy] at h4
                      refine one k ok h3 h4 hkj (fun h => by omega) (fun _ hek => ?_) (by omega)
                      exact (heff k ok h3 hek).2 (by omega))
                    rw [show j + (t0 - j) = t0 by omega] at this
                    exact this.symm
                · have htj : t0 < j := Nat.lt_of_not_le fun h => by have := nx_le hN hS h htn; omega
                  obtain ⟨i, a1, b1, c1, d1⟩ := range_of (fun i => (S i).2.nx) (j - t0) t0 id (by omega) (by rw [show t0 + (j - t0) = j by omega]; exact hidj)
                  have hoi : il[i]? = some il[i] := List.getElem?_eq_getElem (by omega)
                  have hDi : D i = true := by
                    cases hDi : D i with
                    | true => rfl
                    | false => rw [hG.fr i (by omega) hDi id c1 d1] at hpl; cases hpl
                  have hai : isAl il[i] = true := by
                    cases hal : isAl il[i] with
                    | true => rfl
                    | false =>
                      cases hef : isEff il[i] with
                      | true => have := (heff i _ hoi hef).1 hDi; omega
                      | false =>
                        have hh : heapy il[i] = false := by
                          revert hef hal
                          unfold isEff isAl heapy
                          cases il[i].op <;> simp
                        rw [same_heap hS hoi (.inl hh)] at d1; omega
                  rw [loadG _ (hG.g2 i _ a1 hoi hDi hai id c1 d1)]
                  exact chainUp (i + 1) (by omega) (by omega) d1
              unfold load1
              rw [hadd]
              simp only
              cases agg with
              | true =>
                simp only [if_true] at hchain ⊢
                rw [hchain]
              | false =>
                simp only [Bool.false_eq_true, if_false] at hchain ⊢
                rw [hchain]
            rw [this, hu]
          · cases hv
      · cases hstep
  · cases hto
end
end Mx
