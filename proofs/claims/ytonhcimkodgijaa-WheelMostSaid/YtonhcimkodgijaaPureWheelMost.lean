/-
  The pure law of WheelMost: the abstract machine finds it true at every input.
-/
import Derived.Test.YtonhcimkodgijaaIrWheelMost
import Derived.Test.YtonhcimkodgijaaMxT
import Derived.KernelRfl
namespace Go.Proofs.Ytonhcimkodgijaa.PureWheelMost
open Go Mx Go.Proofs.Ytonhcimkodgijaa
set_option linter.unusedVariables false
def shape : List AK := [.pl false [.i .i64], .pl true [.i .i64, .i .i64, .i .i64, .i .i64, .i .i64]]

theorem aks : aksOf Try.prog Try.f9.params.toList = some shape := by kernel_rfl
set_option maxRecDepth 10000
set_option maxHeartbeats 8000000
set_option linter.unusedSimpArgs false
open IrWheelMost
theorem stp : type_of% (And.intro @Bnd_some (And.intro @Bnd_none (And.intro @Sel_true (And.intro @Sel_false (And.intro @Sel_not (And.intro @Grd_tt (And.intro @Grd_ff (And.intro @Grd_tf (And.intro @Grd_ft (And.intro @Grd_undef (And.intro @Chk_true (And.intro @Hid_un (And.intro @wV_fn (And.intro @vPick_t (And.intro @vPick_f (And.intro @vCvi_i (And.intro @vFa_p (And.intro @vNilc_p (And.intro @vNilc_f (And.intro @vFld_a (And.intro @vIxa_a (And.intro @vIa_s (And.intro @vIaa_p (And.intro @vExt_t (And.intro @vLens_s (And.intro @vCaps_s (And.intro @vCaps_n (And.intro @vCaps_e (And.intro @vLens_n (And.intro @vLens_e (And.intro @vLens_so (And.intro @vLent_s (And.intro @vLdA_p (And.intro @vLd1_p (And.intro @vStore_p (And.intro @vMake_i (And.intro @stdy_p (And.intro @stdyG_b (And.intro @stdyG_u (And.intro @cut_S (And.intro @cut_Z (And.intro @cut_C (And.intro @lay_S (And.intro @lay_Z (And.intro @lay_C (And.intro @load_one (And.intro @H.store_of (And.intro @atS (And.intro @atZ (And.intro @setS (And.intro @setZ (And.intro @getS (And.intro @getZ (And.intro @mapN (And.intro @mapC (And.intro @fold_n (And.intro @fold_min (And.intro @fold_max (And.intro @b_land (And.intro @land64 (And.intro @b_lor (And.intro @b_add (And.intro @b_sub (And.intro @b_mul (And.intro @b_quo (And.intro @b_rem (And.intro @b_eql (And.intro @b_neq (And.intro @b_lss (And.intro @b_leq (And.intro @b_gtr (And.intro @b_geq (And.intro @un_not (And.intro @un_neg (And.intro @wrap64 (And.intro @wrap32u (And.intro @wrap64u (And.intro @wrap8u (And.intro @beq_ft (And.intro @beq_tf (And.intro @same_refl (And.intro @sames_refl (And.intro @dec_t (And.intro @dec_f (And.intro @Int.max_eq_left (And.intro @Int.max_eq_right (And.intro @Int.min_eq_left (And.intro @Int.min_eq_right (And.intro @cells_i (And.intro @one_i (And.intro @cells_b (And.intro @one_b (And.intro @cells_s (And.intro @one_s (And.intro @cells_p (And.intro @one_p (And.intro @cells_sl (And.intro @one_sl (And.intro @cells_nsl (And.intro @one_nsl (And.intro @cells_es (And.intro @cells_so (And.intro @one_es (And.intro @one_so (And.intro @cells_fn (And.intro @one_fn (And.intro @cells_nfn (And.intro @one_nfn (And.intro @cells_agg (And.intro @Bool.not_eq_true (And.intro @Bool.not_eq_false (And.intro @H.get_new (And.intro @H.get_put (And.intro @H.nx_new (And.intro @H.nx_put (And.intro @Bool.and_true (And.intro @Bool.true_and (And.intro @Bool.and_false (And.intro @Bool.false_and (And.intro @iff_self (And.intro @and_true (And.intro @true_and (And.intro @and_false (And.intro @false_and (And.intro @or_false (And.intro @false_or (And.intro @or_true (And.intro @true_or (And.intro @not_true_eq_false (And.intro @not_false_eq_true (And.intro @Bool.not_true (And.intro @Bool.not_false (And.intro @Bool.not_not (And.intro @Bool.true_eq_false (And.intro @Bool.false_eq_true (And.intro @decide_true (And.intro @decide_false (And.intro @Nat.zero_add (And.intro @Nat.add_zero (And.intro @Nat.mul_one (And.intro @Nat.zero_ne_one (And.intro @Int.toNat_natCast (And.intro @Int.cast_ofNat_Int (And.intro @Int.natCast_zero (And.intro @Int.natCast_one (@Nat.not_lt_zero)))))))))))))))))))))))))))))))))))))))))))))))))))))))))))))))))))))))))))))))))))))))))))))))))))))))))))))))))))))))))))))))))))))))))))))))))) := And.intro @Bnd_some (And.intro @Bnd_none (And.intro @Sel_true (And.intro @Sel_false (And.intro @Sel_not (And.intro @Grd_tt (And.intro @Grd_ff (And.intro @Grd_tf (And.intro @Grd_ft (And.intro @Grd_undef (And.intro @Chk_true (And.intro @Hid_un (And.intro @wV_fn (And.intro @vPick_t (And.intro @vPick_f (And.intro @vCvi_i (And.intro @vFa_p (And.intro @vNilc_p (And.intro @vNilc_f (And.intro @vFld_a (And.intro @vIxa_a (And.intro @vIa_s (And.intro @vIaa_p (And.intro @vExt_t (And.intro @vLens_s (And.intro @vCaps_s (And.intro @vCaps_n (And.intro @vCaps_e (And.intro @vLens_n (And.intro @vLens_e (And.intro @vLens_so (And.intro @vLent_s (And.intro @vLdA_p (And.intro @vLd1_p (And.intro @vStore_p (And.intro @vMake_i (And.intro @stdy_p (And.intro @stdyG_b (And.intro @stdyG_u (And.intro @cut_S (And.intro @cut_Z (And.intro @cut_C (And.intro @lay_S (And.intro @lay_Z (And.intro @lay_C (And.intro @load_one (And.intro @H.store_of (And.intro @atS (And.intro @atZ (And.intro @setS (And.intro @setZ (And.intro @getS (And.intro @getZ (And.intro @mapN (And.intro @mapC (And.intro @fold_n (And.intro @fold_min (And.intro @fold_max (And.intro @b_land (And.intro @land64 (And.intro @b_lor (And.intro @b_add (And.intro @b_sub (And.intro @b_mul (And.intro @b_quo (And.intro @b_rem (And.intro @b_eql (And.intro @b_neq (And.intro @b_lss (And.intro @b_leq (And.intro @b_gtr (And.intro @b_geq (And.intro @un_not (And.intro @un_neg (And.intro @wrap64 (And.intro @wrap32u (And.intro @wrap64u (And.intro @wrap8u (And.intro @beq_ft (And.intro @beq_tf (And.intro @same_refl (And.intro @sames_refl (And.intro @dec_t (And.intro @dec_f (And.intro @Int.max_eq_left (And.intro @Int.max_eq_right (And.intro @Int.min_eq_left (And.intro @Int.min_eq_right (And.intro @cells_i (And.intro @one_i (And.intro @cells_b (And.intro @one_b (And.intro @cells_s (And.intro @one_s (And.intro @cells_p (And.intro @one_p (And.intro @cells_sl (And.intro @one_sl (And.intro @cells_nsl (And.intro @one_nsl (And.intro @cells_es (And.intro @cells_so (And.intro @one_es (And.intro @one_so (And.intro @cells_fn (And.intro @one_fn (And.intro @cells_nfn (And.intro @one_nfn (And.intro @cells_agg (And.intro @Bool.not_eq_true (And.intro @Bool.not_eq_false (And.intro @H.get_new (And.intro @H.get_put (And.intro @H.nx_new (And.intro @H.nx_put (And.intro @Bool.and_true (And.intro @Bool.true_and (And.intro @Bool.and_false (And.intro @Bool.false_and (And.intro @iff_self (And.intro @and_true (And.intro @true_and (And.intro @and_false (And.intro @false_and (And.intro @or_false (And.intro @false_or (And.intro @or_true (And.intro @true_or (And.intro @not_true_eq_false (And.intro @not_false_eq_true (And.intro @Bool.not_true (And.intro @Bool.not_false (And.intro @Bool.not_not (And.intro @Bool.true_eq_false (And.intro @Bool.false_eq_true (And.intro @decide_true (And.intro @decide_false (And.intro @Nat.zero_add (And.intro @Nat.add_zero (And.intro @Nat.mul_one (And.intro @Nat.zero_ne_one (And.intro @Int.toNat_natCast (And.intro @Int.cast_ofNat_Int (And.intro @Int.natCast_zero (And.intro @Int.natCast_one (@Nat.not_lt_zero)))))))))))))))))))))))))))))))))))))))))))))))))))))))))))))))))))))))))))))))))))))))))))))))))))))))))))))))))))))))))))))))))))))))))))))))))
/-! ### what is one's own, and what stays as it is -/
def Fr (h : H) (own : Nat → Prop) (h' : H) (own' : Nat → Prop) : Prop := h.nx ≤ h'.nx ∧ ∀ id, id < h.nx → ¬ own id → h'.get id = h.get id ∧ ¬ own' id
theorem Fr.refl (h : H) (own : Nat → Prop) : Fr h own h own := ⟨Nat.le_refl _, fun _ _ ho => ⟨rfl, ho⟩⟩
theorem Fr.trans {h h1 h2 : H} {o o1 o2 : Nat → Prop} (a : Fr h o h1 o1) (b : Fr h1 o1 h2 o2) : Fr h o h2 o2 :=
  ⟨Nat.le_trans a.1 b.1, fun id hid ho => by
    obtain ⟨e1, k1⟩ := a.2 id hid ho
    obtain ⟨e2, k2⟩ := b.2 id (Nat.lt_of_lt_of_le hid a.1) k1
    exact ⟨e2.trans e1, k2⟩⟩
/-- a row that is nobody's -/
def Has (h : H) (own : Nat → Prop) (id : Nat) (o : O) : Prop := id < h.nx ∧ ¬ own id ∧ h.get id = some o
theorem Fr.has {h h1 : H} {o o1 : Nat → Prop} (a : Fr h o h1 o1) {id : Nat} {r : O} (k : Has h o id r) : Has h1 o1 id r := by
  obtain ⟨k1, k2, k3⟩ := k
  obtain ⟨e1, e2⟩ := a.2 id k1 k2
  exact ⟨Nat.lt_of_lt_of_le k1 a.1, e2, e1.trans k3⟩
def iv (x : Int) : V := .i .i64 x
def iu (x : Int) : V := .i .u64 x
theorem fr_new (h : H) (own : Nat → Prop) (hb : ∀ id, own id → id < h.nx) (o : O) : Fr h own (h.new o) own :=
  ⟨by simp, fun id hid ho => ⟨by rw [H.get_new, if_neg (by omega)], ho⟩⟩

def Ext (h h' : H) : Prop := h.nx ≤ h'.nx ∧ ∀ id, id < h.nx → h'.get id = h.get id
theorem Ext.refl (h : H) : Ext h h := ⟨Nat.le_refl _, fun _ _ => rfl⟩
theorem Ext.trans {h h1 h2 : H} (a : Ext h h1) (b : Ext h1 h2) : Ext h h2 := ⟨Nat.le_trans a.1 b.1, fun id hid => (b.2 id (Nat.lt_of_lt_of_le hid a.1)).trans (a.2 id hid)⟩
theorem ext_new (h : H) (o : O) : Ext h (h.new o) := ⟨by simp, fun id hid => by rw [H.get_new, if_neg (by omega)]⟩
theorem Ext.fr {h h' : H} (a : Ext h h') (own : Nat → Prop) : Fr h own h' own := ⟨a.1, fun id hid ho => ⟨a.2 id hid, ho⟩⟩
theorem zrep_one (x : V) : ∀ n, zrep [x] n = List.replicate n x
  | 0 => rfl
  | n + 1 => by rw [zrepS, zrep_one x n]; rfl

/-! ### rows of records -/
theorem flat_len {w : Nat} : ∀ {R : List (List V)}, (∀ r ∈ R, r.length = w) → R.flatten.length = R.length * w
  | [], _ => by simp
  | r :: R, h => by
    rw [List.flatten_cons, List.length_append, flat_len (fun x hx => h x (List.mem_cons_of_mem _ hx)), h r (List.mem_cons_self ..), List.length_cons, Nat.add_mul]
    omega
theorem flat_drop {w : Nat} : ∀ {R : List (List V)}, (∀ r ∈ R, r.length = w) → ∀ (i : Nat) (t : List V), i ≤ R.length → (R.flatten ++ t).drop (i * w) = (R.drop i).flatten ++ t
  | R, _, 0, t, _ => by simp
  | [], _, i + 1, t, hi => by simp at hi
  | r :: R, h, i + 1, t, hi => by
    have hr := h r (List.mem_cons_self ..)
    rw [List.flatten_cons, List.append_assoc, Nat.add_mul, Nat.one_mul, Nat.add_comm, ← List.drop_drop, ← hr, List.drop_left, hr]
    rw [flat_drop (fun x hx => h x (List.mem_cons_of_mem _ hx)) i t (by simpa using hi)]
    rfl
theorem flat_take {w : Nat} : ∀ {R : List (List V)}, (∀ r ∈ R, r.length = w) → ∀ (i : Nat) (t : List V), i ≤ R.length → (R.flatten ++ t).take (i * w) = (R.take i).flatten
  | R, _, 0, t, _ => by simp
  | [], _, i + 1, t, hi => by simp at hi
  | r :: R, h, i + 1, t, hi => by
    have hr := h r (List.mem_cons_self ..)
    rw [List.flatten_cons, List.append_assoc, Nat.add_mul, Nat.one_mul, Nat.add_comm, ← hr, List.take_length_add_append, hr]
    rw [flat_take (fun x hx => h x (List.mem_cons_of_mem _ hx)) i t (by simpa using hi)]
    rfl
theorem wid_take {w : Nat} {R : List (List V)} (h : ∀ r ∈ R, r.length = w) (i : Nat) : ∀ r ∈ R.take i, r.length = w := fun r hr => h r (List.mem_of_mem_take hr)
theorem wid_drop {w : Nat} {R : List (List V)} (h : ∀ r ∈ R, r.length = w) (i : Nat) : ∀ r ∈ R.drop i, r.length = w := fun r hr => h r (List.mem_of_mem_drop hr)
theorem flat_cut_n {w : Nat} {R : List (List V)} (h : ∀ r ∈ R, r.length = w) (i m : Nat) (t : List V) (hi : i + m ≤ R.length) : cut (R.flatten ++ t) (i * w) (m * w) = some ((R.drop i).take m).flatten := by
  unfold cut
  have hl := flat_len h
  have h1 : (i + m) * w ≤ R.length * w := Nat.mul_le_mul_right w hi
  rw [Nat.add_mul] at h1
  rw [if_pos (by rw [List.length_append, hl]; omega), flat_drop h i t (by omega), flat_take (wid_drop h i) m t (by rw [List.length_drop]; omega)]
theorem flat_cut {w : Nat} {R : List (List V)} (h : ∀ r ∈ R, r.length = w) (i : Nat) (t : List V) (hi : i < R.length) : cut (R.flatten ++ t) (i * w) w = some R[i] := by
  have := flat_cut_n h i 1 t (by omega)
  rw [Nat.one_mul] at this
  rw [this, List.drop_eq_getElem_cons hi, List.take_succ_cons, List.take_zero]
  simp
theorem flat_get {w : Nat} {R : List (List V)} (h : ∀ r ∈ R, r.length = w) (i k : Nat) (t : List V) (hi : i < R.length) (hk : k < w) : (R.flatten ++ t)[i * w + k]? = R[i][k]? := by
  have h1 := flat_drop h i t (by omega)
  rw [← List.getElem?_drop, h1, List.drop_eq_getElem_cons hi, List.flatten_cons, List.append_assoc, List.getElem?_append_left (by rw [h _ (List.getElem_mem hi)]; exact hk)]
theorem wid_set {w : Nat} {R : List (List V)} (h : ∀ r ∈ R, r.length = w) (i : Nat) {r' : List V} (hr : r'.length = w) : ∀ r ∈ R.set i r', r.length = w := by
  intro r hm
  rcases List.mem_or_eq_of_mem_set hm with hm | rfl
  · exact h r hm
  · exact hr
theorem flat_lay {w : Nat} {R : List (List V)} (h : ∀ r ∈ R, r.length = w) (i : Nat) (t : List V) (hi : i < R.length) {r' : List V} (hr : r'.length = w) : lay (R.flatten ++ t) (i * w) r' = (R.set i r').flatten ++ t := by
  unfold lay
  rw [flat_take h i t (by omega), hr, show i * w + w = (i + 1) * w by rw [Nat.add_mul]; omega, flat_drop h (i + 1) t (by omega), List.set_eq_take_append_cons_drop, if_pos hi]
  simp [List.append_assoc]
theorem flat_set {w : Nat} {R : List (List V)} (h : ∀ r ∈ R, r.length = w) (i k : Nat) (t : List V) (hi : i < R.length) (hk : k < w) (v : V) : (R.flatten ++ t).set (i * w + k) v = (R.set i (R[i].set k v)).flatten ++ t := by
  have hw := h _ (List.getElem_mem hi)
  have hl := flat_len h
  have h1 : (i + 1) * w ≤ R.length * w := Nat.mul_le_mul_right w hi
  rw [Nat.add_mul, Nat.one_mul] at h1
  have e1 : R.flatten ++ t = (R.take i).flatten ++ (R[i] ++ ((R.drop (i + 1)).flatten ++ t)) := by
    have := List.take_append_drop (i * w) (R.flatten ++ t)
    rw [flat_take h i t (by omega), flat_drop h i t (by omega), List.drop_eq_getElem_cons hi, List.flatten_cons, List.append_assoc] at this
    exact this.symm
  have hlt : (R.take i).flatten.length = i * w := by rw [flat_len (wid_take h i), List.length_take, Nat.min_eq_left (by omega)]
  rw [e1, ← hlt, List.set_append_right _ _ (by omega), Nat.add_sub_cancel_left, List.set_append_left _ _ (by omega), List.set_eq_take_append_cons_drop (l := R), if_pos hi]
  simp [List.append_assoc]

/-- a slice of records that grows -/
def SlR (h : H) (T : V) (w : Nat) (R : List (List V)) (own : Nat → Prop) : Prop :=
  (∀ r ∈ R, r.length = w) ∧ ((T = .nsl ∧ R = []) ∨ ∃ rl tail, T = .sl rl 0 R.length (.op w) ∧ h.get rl = some ⟨false, R.flatten ++ tail⟩ ∧ own rl)
theorem SlR.len {h : H} {T : V} {w : Nat} {R : List (List V)} {own : Nat → Prop} (s : SlR h T w R own) : lenV T = some R.length := by
  obtain ⟨_, ⟨rfl, rfl⟩ | ⟨rl, tail, rfl, _⟩⟩ := s <;> rfl
theorem SlR.cells {h : H} {T : V} {w : Nat} {R : List (List V)} {own : Nat → Prop} (s : SlR h T w R own) : T.cells = [T] := by
  obtain ⟨_, ⟨rfl, rfl⟩ | ⟨rl, tail, rfl, _⟩⟩ := s <;> rfl
theorem SlR.one {h : H} {T : V} {w : Nat} {R : List (List V)} {own : Nat → Prop} (s : SlR h T w R own) : T.one = true := by
  obtain ⟨_, ⟨rfl, rfl⟩ | ⟨rl, tail, rfl, _⟩⟩ := s <;> rfl
theorem SlR.vlen {h : H} {T : V} {w : Nat} {R : List (List V)} {own : Nat → Prop} (s : SlR h T w R own) : vLens T = some (.i .i64 R.length) := by
  unfold vLens; rw [s.len]
theorem SlR.move {h h' : H} {T : V} {w : Nat} {R : List (List V)} {own own' : Nat → Prop} (s : SlR h T w R own) (hg : ∀ id, own id → h'.get id = h.get id ∧ own' id) : SlR h' T w R own' := by
  obtain ⟨h1, h2 | ⟨rl, tail, e1, e2, e3⟩⟩ := s
  · exact ⟨h1, .inl h2⟩
  · exact ⟨h1, .inr ⟨rl, tail, e1, (hg _ e3).1.trans e2, (hg _ e3).2⟩⟩
/-- one record more -/
theorem app_one {h : H} {T : V} {w bytes : Nat} {R : List (List V)} {own : Nat → Prop} (s : SlR h T w R own) (hw : 0 < w) (hlt : ∀ id, own id → id < h.nx) {rn : Nat} {ro : Bool} {c : Cap} {r : List V} (hn : h.get rn = some ⟨ro, r⟩) (hr : r.length = w) (h1 : r.all V.one = true)
    (hb : (R.length + 1) * bytes * 2 ≤ 140737488355328) (hb2 : R.length + 1 ≤ 140737488355328) :
    ∃ T' h' own', vApp w bytes T (.sl rn 0 1 c) h = some (T', h') ∧ SlR h' T' w (R ++ [r]) own' ∧ (∀ id, id < h.nx → ¬ own id → h'.get id = h.get id ∧ ¬ own' id) ∧ h.nx ≤ h'.nx ∧ (∀ id, own' id → id < h'.nx) ∧ (∀ id, own id → own' id) ∧ (∀ id, own' id → own id ∨ h.nx ≤ id) := by
  obtain ⟨hR, hs⟩ := s
  have hR' : ∀ x ∈ R ++ [r], x.length = w := by
    intro x hx
    simp only [List.mem_append, List.mem_singleton] at hx
    rcases hx with hx | rfl
    · exact hR x hx
    · exact hr
  have hsrc : source w h (.sl rn 0 1 c) = some r := by
    simp only [source, H.load, hn, Nat.one_mul]
    exact cut_all hr
  have hl := flat_len hR
  unfold vApp
  simp only [hsrc, lenV]
  rcases hs with ⟨rfl, rfl⟩ | ⟨rl, tail, rfl, e2, e3⟩
  · simp only [List.length_nil] at hb hb2
    refine ⟨.sl h.nx 0 1 (.op w), h.new ⟨false, r⟩, fun id => own id ∨ id = h.nx, ?_, ⟨hR', .inr ⟨h.nx, [], rfl, ?_, .inr rfl⟩⟩, ?_, by simp, ?_, fun id h => .inl h, fun id h => ?_⟩
    · simp only [append1]
      rw [if_neg (by omega), if_pos ⟨by unfold room; omega, by unfold room; omega⟩]
    · simp
    · intro id h2 h3
      refine ⟨by rw [H.get_new, if_neg (by omega)], ?_⟩
      rintro (h4 | h4)
      · exact h3 h4
      · omega
    · rintro id (h2 | rfl)
      · have := hlt id h2; simp; omega
      · simp
    · rcases h with h | rfl
      · exact .inl h
      · exact .inr (Nat.le_refl _)
  · have hrl := hlt rl e3
    by_cases hfit : (R.length + 1) * w ≤ (R.flatten ++ tail).length
    · rw [List.length_append, hl, Nat.add_mul] at hfit
      refine ⟨.sl rl 0 (R.length + 1) (.op w), h.put rl (some ⟨false, (R ++ [r]).flatten ++ tail.drop w⟩), own, ?_, ⟨hR', .inr ⟨rl, tail.drop w, by simp, by simp, e3⟩⟩, ?_, by simp, ?_, fun id h => h, fun id h => .inl h⟩
      · simp only [append1]
        rw [if_neg (by omega), if_neg (by simp), e2]
        simp only [Bool.false_eq_true, if_false]
        have hx : lay (R.flatten ++ tail) (0 + R.length * w) r = (R ++ [r]).flatten ++ tail.drop w := by
          unfold lay
          rw [Nat.zero_add, hr]
          have e1 : (R.flatten ++ tail).take (R.length * w) = R.flatten := by rw [← hl]; exact List.take_left
          have e2 : (R.flatten ++ tail).drop (R.length * w + w) = tail.drop w := by rw [← List.drop_drop, ← hl, List.drop_left]
          rw [e1, e2]; simp
        rw [if_pos (by rw [List.length_append, hl, Nat.add_mul]; omega), H.store_of, e2]
        simp only
        rw [if_pos ⟨trivial, by rw [List.length_append, hl, hr]; omega, h1⟩]
        simp only [hx]
      · intro id h2 h3
        refine ⟨by rw [H.get_put, if_neg (by rintro rfl; exact h3 e3)], h3⟩
      · exact hlt
    · refine ⟨.sl h.nx 0 (R.length + 1) (.op w), (h.kill rl).new ⟨false, R.flatten ++ r⟩, fun id => own id ∨ id = h.nx, ?_, ⟨hR', .inr ⟨h.nx, [], by simp, ?_, .inr rfl⟩⟩, ?_, by simp, ?_, fun id h => .inl h, fun id h => ?_⟩
      · simp only [append1]
        rw [if_neg (by omega), if_neg (by simp), e2]
        simp only [Bool.false_eq_true, if_false]
        rw [if_neg (by omega), if_pos ⟨by unfold room; omega, by unfold room; omega, h1⟩]
        have : h.load rl 0 (R.length * w) = some R.flatten := by
          simp only [H.load, e2]
          have := flat_cut_n hR 0 R.length tail (by omega)
          rw [Nat.zero_mul] at this
          rw [this]; simp
        rw [this]
      · rw [H.get_new, H.nx_kill, if_pos rfl]; simp
      · intro id h2 h3
        refine ⟨?_, ?_⟩
        · rw [H.get_new, H.nx_kill, if_neg (by omega), H.get_kill, if_neg (by rintro rfl; exact h3 e3)]
        · rintro (h4 | h4)
          · exact h3 h4
          · omega
      · rintro id (h2 | rfl)
        · have := hlt id h2; simp; omega
        · simp
      · rcases h with h | rfl
        · exact .inl h
        · exact .inr (Nat.le_refl _)

theorem land_in (a b : Int) (h1 : 0 ≤ b) (h2 : b ≤ 9223372036854775807) : 0 ≤ land .i64 a b ∧ land .i64 a b ≤ b := by
  obtain ⟨n, rfl⟩ := Int.eq_ofNat_of_zero_le h1
  unfold land
  have e2 : (BitVec.ofInt IntKind.i64.bits (n : Int)).toNat = n := by
    show (BitVec.ofInt 64 (n : Int)).toNat = n
    rw [BitVec.toNat_ofInt]; omega
  rw [BitVec.toNat_and, e2]
  have := Nat.and_le_right (n := (BitVec.ofInt IntKind.i64.bits a).toNat) (m := n)
  rw [wrap64 (by omega) (by omega)]
  omega
theorem zr1 (z : List V) : zrep z 1 = z := by simp [zrep]
theorem zr2 (z : List V) : zrep z 2 = z ++ z := by simp [zrep, List.replicate_succ]
theorem zr3 (z : List V) : zrep z 3 = z ++ (z ++ z) := by simp [zrep, List.replicate_succ]
theorem zr4 (z : List V) : zrep z 4 = z ++ (z ++ (z ++ z)) := by simp [zrep, List.replicate_succ]
theorem shl2 (k : Int) (hk : k = 0 ∨ k = 1 ∨ k = 2 ∨ k = 3) : ∃ n : Int, bin .shl (.i .i64 2) (.i .u64 k) = some (.i .i64 n) ∧ (n = 2 ∧ k = 0 ∨ n = 4 ∧ k = 1 ∨ n = 8 ∧ k = 2 ∨ n = 16 ∧ k = 3) := by
  rcases hk with rfl | rfl | rfl | rfl
  · exact ⟨2, by kernel_rfl, by omega⟩
  · exact ⟨4, by kernel_rfl, by omega⟩
  · exact ⟨8, by kernel_rfl, by omega⟩
  · exact ⟨16, by kernel_rfl, by omega⟩

/-! ### the wheel -/
def alm (a s : Int) : List V := [.i .i64 a, .i .i64 0, .i .i64 s, .i .i64 0, .i .i64 0]
def ent (a s n : Int) : List V := [.i .i64 a, .i .i64 0, .i .i64 s, .i .i64 0, .i .i64 0, .i .i64 n]
theorem alike {a b s t : Int} {h : H} {Q : V → H → Prop} (q : ∀ h', Ext h h' → Q (.b (decide (s = t))) h') : @wF IP 155 [.agg (alm a s), .agg (alm b t)] h ⟨Q⟩ := by
  unfold alm
  by_cases hst : s = t
  · subst hst
    simp (maxSteps := 2000000) (disch := omega) only [stp, ← decide_not, vEqz, eqz, vEqa, eqList, eqAtom, H.at, H.load, vBox, vNewSl, vBld, fill, Mx.part, vClear, vCopy, vBtos, source, lenV, V.isSl, Mx.room, slcut, cutOp, mkOp, bounds, natIn, H.kill, beq_self_eq_true, if_pos, if_neg, List.cons_append, List.nil_append, List.append_nil, List.length_cons, List.length_nil, List.length_set, List.take_succ_cons, List.take_zero, List.drop_succ_cons, List.drop_zero, List.take_nil, List.drop_nil, List.all_cons, List.all_nil, ite_self, if_true, if_false, ite_true, ite_false, reduceIte, reduceDIte, eq_self, ne_eq, gt_iff_lt, ge_iff_le, Option.map_some, Option.map_none, Nat.reduceAdd, Nat.reduceMul, Nat.reduceSub, Nat.reduceLT, Nat.reduceLeDiff, Nat.reduceEqDiff, Nat.reduceSucc, Int.reduceAdd, Int.reduceSub, Int.reduceMul, Int.reduceNeg, Int.reduceLT, Int.reduceLE, Int.reduceEq, Int.reduceNe, Int.reduceToNat, Int.reduceTMod, Int.reduceTDiv, Int.reduceFDiv, Int.reducePow, Nat.reduceMod, Nat.reduceAnd, Nat.reduceDiv, Nat.reducePow, f155, K155_6, K155_7, K155, K155_6, K155_7, K155]
    have := q _ (((ext_new h ⟨false, alm a s⟩).trans (ext_new _ ⟨false, alm b s⟩)))
    rw [decide_eq_true rfl] at this
    exact this
  · simp (maxSteps := 2000000) (disch := omega) only [stp, ← decide_not, vEqz, eqz, vEqa, eqList, eqAtom, H.at, H.load, vBox, vNewSl, vBld, fill, Mx.part, vClear, vCopy, vBtos, source, lenV, V.isSl, Mx.room, slcut, cutOp, mkOp, bounds, natIn, H.kill, beq_self_eq_true, if_pos, if_neg, List.cons_append, List.nil_append, List.append_nil, List.length_cons, List.length_nil, List.length_set, List.take_succ_cons, List.take_zero, List.drop_succ_cons, List.drop_zero, List.take_nil, List.drop_nil, List.all_cons, List.all_nil, ite_self, if_true, if_false, ite_true, ite_false, reduceIte, reduceDIte, eq_self, ne_eq, gt_iff_lt, ge_iff_le, Option.map_some, Option.map_none, Nat.reduceAdd, Nat.reduceMul, Nat.reduceSub, Nat.reduceLT, Nat.reduceLeDiff, Nat.reduceEqDiff, Nat.reduceSucc, Int.reduceAdd, Int.reduceSub, Int.reduceMul, Int.reduceNeg, Int.reduceLT, Int.reduceLE, Int.reduceEq, Int.reduceNe, Int.reduceToNat, Int.reduceTMod, Int.reduceTDiv, Int.reduceFDiv, Int.reducePow, Nat.reduceMod, Nat.reduceAnd, Nat.reduceDiv, Nat.reducePow, f155, K155_6, K155_7, K155, K155_6, K155_7, K155, hst]
    have := q _ (((ext_new h ⟨false, alm a s⟩).trans (ext_new _ ⟨false, alm b t⟩)))
    rw [decide_eq_false hst] at this
    exact this
/-- is an entry for the same? -/
theorem same {a s n b t : Int} {ra : Nat} {h : H} (hg : h.get ra = some ⟨false, alm b t⟩) (hlt : ra < h.nx) {Q : V → H → Prop} (q : ∀ h', Ext h h' → Q (.b (decide (s = t))) h') : @wF IP 154 [.agg (ent a s n), .p (some (ra, 0))] h ⟨Q⟩ := by
  unfold ent
  have hg' := hg
  unfold alm at hg'
  simp (maxSteps := 2000000) (disch := omega) only [stp, ← decide_not, vEqz, eqz, vEqa, eqList, eqAtom, H.at, H.load, vBox, vNewSl, vBld, fill, Mx.part, vClear, vCopy, vBtos, source, lenV, V.isSl, Mx.room, slcut, cutOp, mkOp, bounds, natIn, H.kill, beq_self_eq_true, if_pos, if_neg, List.cons_append, List.nil_append, List.append_nil, List.length_cons, List.length_nil, List.length_set, List.take_succ_cons, List.take_zero, List.drop_succ_cons, List.drop_zero, List.take_nil, List.drop_nil, List.all_cons, List.all_nil, ite_self, if_true, if_false, ite_true, ite_false, reduceIte, reduceDIte, eq_self, ne_eq, gt_iff_lt, ge_iff_le, Option.map_some, Option.map_none, Nat.reduceAdd, Nat.reduceMul, Nat.reduceSub, Nat.reduceLT, Nat.reduceLeDiff, Nat.reduceEqDiff, Nat.reduceSucc, Int.reduceAdd, Int.reduceSub, Int.reduceMul, Int.reduceNeg, Int.reduceLT, Int.reduceLE, Int.reduceEq, Int.reduceNe, Int.reduceToNat, Int.reduceTMod, Int.reduceTDiv, Int.reduceFDiv, Int.reducePow, Nat.reduceMod, Nat.reduceAnd, Nat.reduceDiv, Nat.reducePow, f154, K154, hg']
  refine alike (a := a) (b := b) (s := s) (t := t) (fun h' e => ?_)
  exact q h' ((ext_new _ _).trans e)
def Sle (h : H) (T : V) (E : List (List V)) : Prop := (T = .nsl ∧ E = []) ∨ ∃ id, T = .sl id 0 E.length (.op 6) ∧ h.get id = some ⟨false, E.flatten⟩ ∧ id < h.nx
theorem Sle.ext {h h' : H} {T : V} {E : List (List V)} (s : Sle h T E) (e : Ext h h') : Sle h' T E := by
  rcases s with s | ⟨id, h1, h2, h3⟩
  · exact .inl s
  · exact .inr ⟨id, h1, (e.2 id h3).trans h2, Nat.lt_of_lt_of_le h3 e.1⟩
theorem Sle.len {h : H} {T : V} {E : List (List V)} (s : Sle h T E) : vLens T = some (.i .i64 E.length) := by
  rcases s with ⟨rfl, rfl⟩ | ⟨id, rfl, _⟩ <;> rfl
theorem Sle.cells {h : H} {T : V} {E : List (List V)} (s : Sle h T E) : T.cells = [T] := by
  rcases s with ⟨rfl, rfl⟩ | ⟨id, rfl, _⟩ <;> rfl
theorem Sle.one {h : H} {T : V} {E : List (List V)} (s : Sle h T E) : T.one = true := by
  rcases s with ⟨rfl, rfl⟩ | ⟨id, rfl, _⟩ <;> rfl
/-- entries none of which is for the same -/
def Oth (t : Int) (E : List (List V)) : Prop := ∀ e ∈ E, ∃ a s n, e = ent a s n ∧ s ≠ t
theorem Oth.wid {t : Int} {E : List (List V)} (o : Oth t E) : ∀ e ∈ E, e.length = 6 := fun e he => by
  obtain ⟨a, s, n, rfl, _⟩ := o e he
  rfl
def IxI (T x1 : V) (N : Nat) (h0 : H) (m : Nat) (y0 y1 y7 y8 : V) (h : H) : Prop := ∃ i : Nat, y0 = T ∧ y1 = x1 ∧ y7 = .i .i64 N ∧ y8 = .i .i64 i ∧ i ≤ N ∧ m = N - i ∧ Ext h0 h
theorem index_none {h : H} {T : V} {E : List (List V)} {ra : Nat} {b t : Int} (s : Sle h T E) (o : Oth t E) (hl : E.length ≤ 1000) (hg : h.get ra = some ⟨false, alm b t⟩) (hlt : ra < h.nx) {Q : V → H → Prop} (q : ∀ h', Ext h h' → Q (.i .i64 (-1)) h') :
    @wF IP 160 [T, .fn 154 [.p (some (ra, 0))]] h ⟨Q⟩ := by
  have hlen := s.len
  simp (maxSteps := 2000000) (disch := omega) only [stp, ← decide_not, vEqz, eqz, vEqa, eqList, eqAtom, H.at, H.load, vBox, vNewSl, vBld, fill, Mx.part, vClear, vCopy, vBtos, source, lenV, V.isSl, Mx.room, slcut, cutOp, mkOp, bounds, natIn, H.kill, beq_self_eq_true, if_pos, if_neg, List.cons_append, List.nil_append, List.append_nil, List.length_cons, List.length_nil, List.length_set, List.take_succ_cons, List.take_zero, List.drop_succ_cons, List.drop_zero, List.take_nil, List.drop_nil, List.all_cons, List.all_nil, ite_self, if_true, if_false, ite_true, ite_false, reduceIte, reduceDIte, eq_self, ne_eq, gt_iff_lt, ge_iff_le, Option.map_some, Option.map_none, Nat.reduceAdd, Nat.reduceMul, Nat.reduceSub, Nat.reduceLT, Nat.reduceLeDiff, Nat.reduceEqDiff, Nat.reduceSucc, Int.reduceAdd, Int.reduceSub, Int.reduceMul, Int.reduceNeg, Int.reduceLT, Int.reduceLE, Int.reduceEq, Int.reduceNe, Int.reduceToNat, Int.reduceTMod, Int.reduceTDiv, Int.reduceFDiv, Int.reducePow, Nat.reduceMod, Nat.reduceAnd, Nat.reduceDiv, Nat.reducePow, f160, K160_1, K160, hlen]
  refine W160_2_inv (IxI T (.fn 154 [.p (some (ra, 0))]) E.length h) ?_ E.length _ _ _ _ _ ⟨0, rfl, rfl, rfl, rfl, by omega, by omega, Ext.refl _⟩
  rintro m _ _ _ _ h1 ⟨i, rfl, rfl, rfl, rfl, hi, rfl, e1⟩
  by_cases hlt2 : i < E.length
  · rcases s with ⟨rfl, rfl⟩ | ⟨id, rfl, g0, l0⟩
    · simp at hlt2
    have g1 := (e1.2 id l0).trans g0
    obtain ⟨a, s', n, he, hne⟩ := o _ (List.getElem_mem hlt2)
    have hcut := flat_cut o.wid i [] hlt2
    rw [List.append_nil, he] at hcut
    simp (maxSteps := 2000000) (disch := omega) only [stp, ← decide_not, vEqz, eqz, vEqa, eqList, eqAtom, H.at, H.load, vBox, vNewSl, vBld, fill, Mx.part, vClear, vCopy, vBtos, source, lenV, V.isSl, Mx.room, slcut, cutOp, mkOp, bounds, natIn, H.kill, beq_self_eq_true, if_pos, if_neg, List.cons_append, List.nil_append, List.append_nil, List.length_cons, List.length_nil, List.length_set, List.take_succ_cons, List.take_zero, List.drop_succ_cons, List.drop_zero, List.take_nil, List.drop_nil, List.all_cons, List.all_nil, ite_self, if_true, if_false, ite_true, ite_false, reduceIte, reduceDIte, eq_self, ne_eq, gt_iff_lt, ge_iff_le, Option.map_some, Option.map_none, Nat.reduceAdd, Nat.reduceMul, Nat.reduceSub, Nat.reduceLT, Nat.reduceLeDiff, Nat.reduceEqDiff, Nat.reduceSucc, Int.reduceAdd, Int.reduceSub, Int.reduceMul, Int.reduceNeg, Int.reduceLT, Int.reduceLE, Int.reduceEq, Int.reduceNe, Int.reduceToNat, Int.reduceTMod, Int.reduceTDiv, Int.reduceFDiv, Int.reducePow, Nat.reduceMod, Nat.reduceAnd, Nat.reduceDiv, Nat.reducePow, L160_2, g1, hcut]
    refine same (b := b) (t := t) ((e1.2 ra hlt).trans hg) (Nat.lt_of_lt_of_le hlt e1.1) (fun h2 e2 => ?_)
    rw [decide_eq_false hne]
    simp (maxSteps := 2000000) (disch := omega) only [stp, ← decide_not, vEqz, eqz, vEqa, eqList, eqAtom, H.at, H.load, vBox, vNewSl, vBld, fill, Mx.part, vClear, vCopy, vBtos, source, lenV, V.isSl, Mx.room, slcut, cutOp, mkOp, bounds, natIn, H.kill, beq_self_eq_true, if_pos, if_neg, List.cons_append, List.nil_append, List.append_nil, List.length_cons, List.length_nil, List.length_set, List.take_succ_cons, List.take_zero, List.drop_succ_cons, List.drop_zero, List.take_nil, List.drop_nil, List.all_cons, List.all_nil, ite_self, if_true, if_false, ite_true, ite_false, reduceIte, reduceDIte, eq_self, ne_eq, gt_iff_lt, ge_iff_le, Option.map_some, Option.map_none, Nat.reduceAdd, Nat.reduceMul, Nat.reduceSub, Nat.reduceLT, Nat.reduceLeDiff, Nat.reduceEqDiff, Nat.reduceSucc, Int.reduceAdd, Int.reduceSub, Int.reduceMul, Int.reduceNeg, Int.reduceLT, Int.reduceLE, Int.reduceEq, Int.reduceNe, Int.reduceToNat, Int.reduceTMod, Int.reduceTDiv, Int.reduceFDiv, Int.reducePow, Nat.reduceMod, Nat.reduceAnd, Nat.reduceDiv, Nat.reducePow, ]
    exact ⟨E.length - (i + 1), by omega, i + 1, rfl, rfl, rfl, rfl, by omega, rfl, e1.trans e2⟩
  · have : i = E.length := by omega
    subst this
    simp (maxSteps := 2000000) (disch := omega) only [stp, ← decide_not, vEqz, eqz, vEqa, eqList, eqAtom, H.at, H.load, vBox, vNewSl, vBld, fill, Mx.part, vClear, vCopy, vBtos, source, lenV, V.isSl, Mx.room, slcut, cutOp, mkOp, bounds, natIn, H.kill, beq_self_eq_true, if_pos, if_neg, List.cons_append, List.nil_append, List.append_nil, List.length_cons, List.length_nil, List.length_set, List.take_succ_cons, List.take_zero, List.drop_succ_cons, List.drop_zero, List.take_nil, List.drop_nil, List.all_cons, List.all_nil, ite_self, if_true, if_false, ite_true, ite_false, reduceIte, reduceDIte, eq_self, ne_eq, gt_iff_lt, ge_iff_le, Option.map_some, Option.map_none, Nat.reduceAdd, Nat.reduceMul, Nat.reduceSub, Nat.reduceLT, Nat.reduceLeDiff, Nat.reduceEqDiff, Nat.reduceSucc, Int.reduceAdd, Int.reduceSub, Int.reduceMul, Int.reduceNeg, Int.reduceLT, Int.reduceLE, Int.reduceEq, Int.reduceNe, Int.reduceToNat, Int.reduceTMod, Int.reduceTDiv, Int.reduceFDiv, Int.reducePow, Nat.reduceMod, Nat.reduceAnd, Nat.reduceDiv, Nat.reducePow, L160_2, K160_1]
    exact q h1 e1
theorem delete_none {h : H} {T : V} {E : List (List V)} {ra : Nat} {b t : Int} (s : Sle h T E) (o : Oth t E) (hl : E.length ≤ 1000) (hg : h.get ra = some ⟨false, alm b t⟩) (hlt : ra < h.nx) {Q : V → H → Prop} (q : ∀ h', Ext h h' → Q T h') :
    @wF IP 153 [T, .fn 154 [.p (some (ra, 0))]] h ⟨Q⟩ := by
  simp (maxSteps := 2000000) (disch := omega) only [stp, ← decide_not, vEqz, eqz, vEqa, eqList, eqAtom, H.at, H.load, vBox, vNewSl, vBld, fill, Mx.part, vClear, vCopy, vBtos, source, lenV, V.isSl, Mx.room, slcut, cutOp, mkOp, bounds, natIn, H.kill, beq_self_eq_true, if_pos, if_neg, List.cons_append, List.nil_append, List.append_nil, List.length_cons, List.length_nil, List.length_set, List.take_succ_cons, List.take_zero, List.drop_succ_cons, List.drop_zero, List.take_nil, List.drop_nil, List.all_cons, List.all_nil, ite_self, if_true, if_false, ite_true, ite_false, reduceIte, reduceDIte, eq_self, ne_eq, gt_iff_lt, ge_iff_le, Option.map_some, Option.map_none, Nat.reduceAdd, Nat.reduceMul, Nat.reduceSub, Nat.reduceLT, Nat.reduceLeDiff, Nat.reduceEqDiff, Nat.reduceSucc, Int.reduceAdd, Int.reduceSub, Int.reduceMul, Int.reduceNeg, Int.reduceLT, Int.reduceLE, Int.reduceEq, Int.reduceNe, Int.reduceToNat, Int.reduceTMod, Int.reduceTDiv, Int.reduceFDiv, Int.reducePow, Nat.reduceMod, Nat.reduceAnd, Nat.reduceDiv, Nat.reducePow, f153, K153_1, K153_3, K153]
  refine index_none s o hl hg hlt (fun h1 e1 => ?_)
  simp (maxSteps := 2000000) (disch := omega) only [stp, ← decide_not, vEqz, eqz, vEqa, eqList, eqAtom, H.at, H.load, vBox, vNewSl, vBld, fill, Mx.part, vClear, vCopy, vBtos, source, lenV, V.isSl, Mx.room, slcut, cutOp, mkOp, bounds, natIn, H.kill, beq_self_eq_true, if_pos, if_neg, List.cons_append, List.nil_append, List.append_nil, List.length_cons, List.length_nil, List.length_set, List.take_succ_cons, List.take_zero, List.drop_succ_cons, List.drop_zero, List.take_nil, List.drop_nil, List.all_cons, List.all_nil, ite_self, if_true, if_false, ite_true, ite_false, reduceIte, reduceDIte, eq_self, ne_eq, gt_iff_lt, ge_iff_le, Option.map_some, Option.map_none, Nat.reduceAdd, Nat.reduceMul, Nat.reduceSub, Nat.reduceLT, Nat.reduceLeDiff, Nat.reduceEqDiff, Nat.reduceSucc, Int.reduceAdd, Int.reduceSub, Int.reduceMul, Int.reduceNeg, Int.reduceLT, Int.reduceLE, Int.reduceEq, Int.reduceNe, Int.reduceToNat, Int.reduceTMod, Int.reduceTDiv, Int.reduceFDiv, Int.reducePow, Nat.reduceMod, Nat.reduceAnd, Nat.reduceDiv, Nat.reducePow, ]
  exact q h1 e1
/-- a wheel's cells -/
structure Wr (row : List V) (T : Nat → V) (now n laid : Int) : Prop where
  len : row.length = 53
  w0 : row[0]? = some (.i .i64 now)
  wc : ∀ c, 1 ≤ c → c ≤ 50 → row[c]? = some (T c)
  wn : row[51]? = some (.i .i64 n)
  wl : row[52]? = some (.i .i64 laid)
theorem lay1 {row : List V} {c : Nat} (v : V) (hc : c < row.length) : lay row c [v] = row.set c v := by
  unfold lay
  rw [List.set_eq_take_append_cons_drop, if_pos hc]
  simp
theorem lay_same {row : List V} {c : Nat} {v : V} (h : row[c]? = some v) : lay row c [v] = row := by
  obtain ⟨hc, rfl⟩ := List.getElem?_eq_some_iff.1 h
  rw [lay1 _ hc]
  exact List.set_getElem_self hc
theorem put_same {h : H} {id : Nat} {o : O} (hg : h.get id = some o) : Ext h (h.put id (some o)) := by
  refine ⟨by simp, fun j hj => ?_⟩
  rw [H.get_put]
  by_cases e : j = id
  · rw [if_pos e, e, hg]
  · rw [if_neg e]
theorem without_none {h : H} {wr : Nat} {row : List V} {T : Nat → V} {E : List (List V)} {c : Nat} {now n laid b t : Int} (hw : h.get wr = some ⟨false, row⟩) (hwl : wr < h.nx) (w : Wr row T now n laid) (hn : 0 ≤ n ∧ n ≤ 1000) (hc : 1 ≤ c ∧ c ≤ 50) (s : Sle h (T c) E) (o : Oth t E) (hl : E.length ≤ 1000) {Q : V → H → Prop} (q : ∀ h', Ext h h' → Q (T c) h') :
    @wF IP 131 [.p (some (wr, 0)), T c, .agg (alm b t)] h ⟨Q⟩ := by
  have hlen := s.len
  have wn := w.wn
  have hly := lay_same w.wn
  have hrl := w.len
  unfold alm
  simp (maxSteps := 2000000) (disch := omega) only [stp, ← decide_not, vEqz, eqz, vEqa, eqList, eqAtom, H.at, H.load, vBox, vNewSl, vBld, fill, Mx.part, vClear, vCopy, vBtos, source, lenV, V.isSl, Mx.room, slcut, cutOp, mkOp, bounds, natIn, H.kill, beq_self_eq_true, if_pos, if_neg, List.cons_append, List.nil_append, List.append_nil, List.length_cons, List.length_nil, List.length_set, List.take_succ_cons, List.take_zero, List.drop_succ_cons, List.drop_zero, List.take_nil, List.drop_nil, List.all_cons, List.all_nil, ite_self, if_true, if_false, ite_true, ite_false, reduceIte, reduceDIte, eq_self, ne_eq, gt_iff_lt, ge_iff_le, Option.map_some, Option.map_none, Nat.reduceAdd, Nat.reduceMul, Nat.reduceSub, Nat.reduceLT, Nat.reduceLeDiff, Nat.reduceEqDiff, Nat.reduceSucc, Int.reduceAdd, Int.reduceSub, Int.reduceMul, Int.reduceNeg, Int.reduceLT, Int.reduceLE, Int.reduceEq, Int.reduceNe, Int.reduceToNat, Int.reduceTMod, Int.reduceTDiv, Int.reduceFDiv, Int.reducePow, Nat.reduceMod, Nat.reduceAnd, Nat.reduceDiv, Nat.reducePow, f131, K131]
  have e0 := ext_new h ⟨false, alm b t⟩
  refine delete_none (h := h.new ⟨false, alm b t⟩) (b := b) (t := t) (s.ext e0) o hl (by simp) (by simp) (fun h1 e1 => ?_)
  have e2 := e0.trans e1
  have g1 := (e2.2 wr hwl).trans hw
  simp (maxSteps := 2000000) (disch := omega) only [stp, ← decide_not, vEqz, eqz, vEqa, eqList, eqAtom, H.at, H.load, vBox, vNewSl, vBld, fill, Mx.part, vClear, vCopy, vBtos, source, lenV, V.isSl, Mx.room, slcut, cutOp, mkOp, bounds, natIn, H.kill, beq_self_eq_true, if_pos, if_neg, List.cons_append, List.nil_append, List.append_nil, List.length_cons, List.length_nil, List.length_set, List.take_succ_cons, List.take_zero, List.drop_succ_cons, List.drop_zero, List.take_nil, List.drop_nil, List.all_cons, List.all_nil, ite_self, if_true, if_false, ite_true, ite_false, reduceIte, reduceDIte, eq_self, ne_eq, gt_iff_lt, ge_iff_le, Option.map_some, Option.map_none, Nat.reduceAdd, Nat.reduceMul, Nat.reduceSub, Nat.reduceLT, Nat.reduceLeDiff, Nat.reduceEqDiff, Nat.reduceSucc, Int.reduceAdd, Int.reduceSub, Int.reduceMul, Int.reduceNeg, Int.reduceLT, Int.reduceLE, Int.reduceEq, Int.reduceNe, Int.reduceToNat, Int.reduceTMod, Int.reduceTDiv, Int.reduceFDiv, Int.reducePow, Nat.reduceMod, Nat.reduceAnd, Nat.reduceDiv, Nat.reducePow, g1, wn, hlen, hly, hrl, Int.sub_self, Int.sub_zero]
  exact q _ (e2.trans (put_same g1))
/-- a wheel -/
structure Wh (ar : Nat) (ao : O) (h : H) (wr : Nat) (T : Nat → V) (E : Nat → List (List V)) (now n laid : Int) : Prop where
  row : ∃ row, h.get wr = some ⟨false, row⟩ ∧ Wr row T now n laid
  lt : wr < h.nx
  sl : ∀ c, 1 ≤ c → c ≤ 50 → Sle h (T c) (E c)
  sz : ∀ c, 1 ≤ c → c ≤ 50 → (E c).length ≤ 1000
  wd : ∀ c, 1 ≤ c → c ≤ 50 → ∀ e ∈ E c, e.length = 6
  kp : h.get ar = some ao ∧ ar < h.nx ∧ ar ≠ wr ∧ ∀ c m k, 1 ≤ c → c ≤ 50 → T c ≠ .sl ar 0 m k
  sep : ∀ c id m k, 1 ≤ c → c ≤ 50 → T c = .sl id 0 m k → id ≠ wr
  inj : ∀ c c' id m k m' k', 1 ≤ c → c ≤ 50 → 1 ≤ c' → c' ≤ 50 → T c = .sl id 0 m k → T c' = .sl id 0 m' k' → c = c'
theorem Wh.ext {ar : Nat} {ao : O} {h h' : H} {wr : Nat} {T : Nat → V} {E : Nat → List (List V)} {now n laid : Int} (w : Wh ar ao h wr T E now n laid) (e : Ext h h') : Wh ar ao h' wr T E now n laid := by
  obtain ⟨row, h1, h2⟩ := w.row
  exact ⟨⟨row, (e.2 _ w.lt).trans h1, h2⟩, Nat.lt_of_lt_of_le w.lt e.1, fun c h1 h2 => (w.sl c h1 h2).ext e, w.sz, w.wd, ⟨(e.2 _ w.kp.2.1).trans w.kp.1, Nat.lt_of_lt_of_le w.kp.2.1 e.1, w.kp.2.2⟩, w.sep, w.inj⟩
def DrJ (h0 : H) (wr al L : Nat) (m : Nat) (x0 x3 x4 x26 x29 : V) (h : H) : Prop := ∃ k : Nat, x0 = .p (some (wr, 0)) ∧ x3 = .p (some (al, 0)) ∧ x4 = .i .i64 L ∧ x26 = .i .i64 L ∧ x29 = .i .i64 k ∧ k ≤ 16 ∧ m = 16 - k ∧ Ext h0 h
def DrI (h0 : H) (wr al : Nat) (m : Nat) (x0 x3 x26 : V) (h : H) : Prop := ∃ L : Nat, x0 = .p (some (wr, 0)) ∧ x3 = .p (some (al, 0)) ∧ x26 = .i .i64 L ∧ L ≤ 3 ∧ m = 3 - L ∧ Ext h0 h
theorem drop_none {ar : Nat} {ao : O} {h : H} {wr : Nat} {T : Nat → V} {E : Nat → List (List V)} {now n laid b t : Int} (w : Wh ar ao h wr T E now n laid) (hn : 0 ≤ n ∧ n ≤ 1000) (o : ∀ c, 1 ≤ c → c ≤ 50 → Oth t (E c)) {Q : V → H → Prop} (q : ∀ h', Ext h h' → Q (.tup []) h') :
    @wF IP 93 [.p (some (wr, 0)), .agg (alm b t)] h ⟨Q⟩ := by
  obtain ⟨row, g0, wk⟩ := w.row
  have hrl := wk.len
  have c50 := wk.wc 50 (by omega) (by omega)
  have c49 := wk.wc 49 (by omega) (by omega)
  have ly50 := lay_same c50
  have ly49 := lay_same c49
  have q50 := (w.sl 50 (by omega) (by omega)).cells
  have q49 := (w.sl 49 (by omega) (by omega)).cells
  have p50 := (w.sl 50 (by omega) (by omega)).one
  have p49 := (w.sl 49 (by omega) (by omega)).one
  have hwl := w.lt
  unfold alm
  simp (maxSteps := 2000000) (disch := omega) only [stp, ← decide_not, vEqz, eqz, vEqa, eqList, eqAtom, H.at, H.load, vBox, vNewSl, vBld, fill, Mx.part, vClear, vCopy, vBtos, source, lenV, V.isSl, Mx.room, slcut, cutOp, mkOp, bounds, natIn, H.kill, beq_self_eq_true, if_pos, if_neg, List.cons_append, List.nil_append, List.append_nil, List.length_cons, List.length_nil, List.length_set, List.take_succ_cons, List.take_zero, List.drop_succ_cons, List.drop_zero, List.take_nil, List.drop_nil, List.all_cons, List.all_nil, ite_self, if_true, if_false, ite_true, ite_false, reduceIte, reduceDIte, eq_self, ne_eq, gt_iff_lt, ge_iff_le, Option.map_some, Option.map_none, Nat.reduceAdd, Nat.reduceMul, Nat.reduceSub, Nat.reduceLT, Nat.reduceLeDiff, Nat.reduceEqDiff, Nat.reduceSucc, Int.reduceAdd, Int.reduceSub, Int.reduceMul, Int.reduceNeg, Int.reduceLT, Int.reduceLE, Int.reduceEq, Int.reduceNe, Int.reduceToNat, Int.reduceTMod, Int.reduceTDiv, Int.reduceFDiv, Int.reducePow, Nat.reduceMod, Nat.reduceAnd, Nat.reduceDiv, Nat.reducePow, f93, K93_2, K93, g0, c50]
  have e0 := ext_new h ⟨false, alm b t⟩
  have ga0 : (h.new ⟨false, alm b t⟩).get h.nx = some ⟨false, alm b t⟩ := by simp
  refine without_none (row := row) (T := T) (c := 50) (b := b) (t := t) ((e0.2 _ hwl).trans g0) (Nat.lt_of_lt_of_le hwl e0.1) wk hn (by omega) ((w.sl 50 (by omega) (by omega)).ext e0) (o 50 (by omega) (by omega)) (w.sz 50 (by omega) (by omega)) (fun h1 e1 => ?_)
  have E1 := e0.trans e1
  have g1 := (E1.2 wr hwl).trans g0
  have ga1 := (e1.2 h.nx (by simp)).trans ga0
  have hal : h.nx < h1.nx := by have := e1.1; simp at this; omega
  unfold alm at ga1
  have hne : wr ≠ h.nx := by omega
  simp (maxSteps := 2000000) (disch := omega) only [stp, ← decide_not, vEqz, eqz, vEqa, eqList, eqAtom, H.at, H.load, vBox, vNewSl, vBld, fill, Mx.part, vClear, vCopy, vBtos, source, lenV, V.isSl, Mx.room, slcut, cutOp, mkOp, bounds, natIn, H.kill, beq_self_eq_true, if_pos, if_neg, List.cons_append, List.nil_append, List.append_nil, List.length_cons, List.length_nil, List.length_set, List.take_succ_cons, List.take_zero, List.drop_succ_cons, List.drop_zero, List.take_nil, List.drop_nil, List.all_cons, List.all_nil, ite_self, if_true, if_false, ite_true, ite_false, reduceIte, reduceDIte, eq_self, ne_eq, gt_iff_lt, ge_iff_le, Option.map_some, Option.map_none, Nat.reduceAdd, Nat.reduceMul, Nat.reduceSub, Nat.reduceLT, Nat.reduceLeDiff, Nat.reduceEqDiff, Nat.reduceSucc, Int.reduceAdd, Int.reduceSub, Int.reduceMul, Int.reduceNeg, Int.reduceLT, Int.reduceLE, Int.reduceEq, Int.reduceNe, Int.reduceToNat, Int.reduceTMod, Int.reduceTDiv, Int.reduceFDiv, Int.reducePow, Nat.reduceMod, Nat.reduceAnd, Nat.reduceDiv, Nat.reducePow, g1, ga1, c49, ly50, hrl, hne, q50, p50]
  have e2 := put_same g1
  have E2 := E1.trans e2
  have g2 := (E2.2 wr hwl).trans g0
  have ga2 := (e2.2 h.nx hal).trans ga1
  refine without_none (row := row) (T := T) (c := 49) (b := b) (t := t) g2 (Nat.lt_of_lt_of_le hwl E2.1) wk hn (by omega) ((w.sl 49 (by omega) (by omega)).ext E2) (o 49 (by omega) (by omega)) (w.sz 49 (by omega) (by omega)) (fun h3 e3 => ?_)
  have E3 := E2.trans e3
  have g3 := (E3.2 wr hwl).trans g0
  have hal3 : h.nx < h3.nx := by have := e3.1; simp at this; omega
  have ga3 := (e3.2 h.nx (by simpa using hal)).trans ga2
  simp (maxSteps := 2000000) (disch := omega) only [stp, ← decide_not, vEqz, eqz, vEqa, eqList, eqAtom, H.at, H.load, vBox, vNewSl, vBld, fill, Mx.part, vClear, vCopy, vBtos, source, lenV, V.isSl, Mx.room, slcut, cutOp, mkOp, bounds, natIn, H.kill, beq_self_eq_true, if_pos, if_neg, List.cons_append, List.nil_append, List.append_nil, List.length_cons, List.length_nil, List.length_set, List.take_succ_cons, List.take_zero, List.drop_succ_cons, List.drop_zero, List.take_nil, List.drop_nil, List.all_cons, List.all_nil, ite_self, if_true, if_false, ite_true, ite_false, reduceIte, reduceDIte, eq_self, ne_eq, gt_iff_lt, ge_iff_le, Option.map_some, Option.map_none, Nat.reduceAdd, Nat.reduceMul, Nat.reduceSub, Nat.reduceLT, Nat.reduceLeDiff, Nat.reduceEqDiff, Nat.reduceSucc, Int.reduceAdd, Int.reduceSub, Int.reduceMul, Int.reduceNeg, Int.reduceLT, Int.reduceLE, Int.reduceEq, Int.reduceNe, Int.reduceToNat, Int.reduceTMod, Int.reduceTDiv, Int.reduceFDiv, Int.reducePow, Nat.reduceMod, Nat.reduceAnd, Nat.reduceDiv, Nat.reducePow, g3, ly49, hrl, q49, p49]
  have e4 := put_same g3
  have E4 := E3.trans e4
  have ga4 := (e4.2 h.nx hal3).trans ga3
  have hal4 : h.nx < (h3.put wr (some ⟨false, row⟩)).nx := by simpa using hal3
  generalize h3.put wr (some ⟨false, row⟩) = h4 at E4 ga4 hal4
  refine W93_1_inv (DrI h4 wr h.nx) ?_ 3 _ _ _ _ ⟨0, rfl, rfl, rfl, by omega, by omega, Ext.refl _⟩
  rintro m _ _ _ h5 ⟨L, rfl, rfl, rfl, hL, rfl, e5⟩
  by_cases hL3 : L < 3
  · simp (maxSteps := 2000000) (disch := omega) only [stp, ← decide_not, vEqz, eqz, vEqa, eqList, eqAtom, H.at, H.load, vBox, vNewSl, vBld, fill, Mx.part, vClear, vCopy, vBtos, source, lenV, V.isSl, Mx.room, slcut, cutOp, mkOp, bounds, natIn, H.kill, beq_self_eq_true, if_pos, if_neg, List.cons_append, List.nil_append, List.append_nil, List.length_cons, List.length_nil, List.length_set, List.take_succ_cons, List.take_zero, List.drop_succ_cons, List.drop_zero, List.take_nil, List.drop_nil, List.all_cons, List.all_nil, ite_self, if_true, if_false, ite_true, ite_false, reduceIte, reduceDIte, eq_self, ne_eq, gt_iff_lt, ge_iff_le, Option.map_some, Option.map_none, Nat.reduceAdd, Nat.reduceMul, Nat.reduceSub, Nat.reduceLT, Nat.reduceLeDiff, Nat.reduceEqDiff, Nat.reduceSucc, Int.reduceAdd, Int.reduceSub, Int.reduceMul, Int.reduceNeg, Int.reduceLT, Int.reduceLE, Int.reduceEq, Int.reduceNe, Int.reduceToNat, Int.reduceTMod, Int.reduceTDiv, Int.reduceFDiv, Int.reducePow, Nat.reduceMod, Nat.reduceAnd, Nat.reduceDiv, Nat.reducePow, L93_1]
    refine W93_3_inv (DrJ h4 wr h.nx L) ?_ 16 _ _ _ _ _ _ ⟨0, rfl, rfl, rfl, rfl, rfl, by omega, by omega, e5⟩
    rintro m _ _ _ _ _ h6 ⟨k, rfl, rfl, rfl, rfl, rfl, hk, rfl, e6⟩
    by_cases hk16 : k < 16
    · have E6 := E4.trans e6
      have g6 := (E6.2 wr hwl).trans g0
      have ga6 := (e6.2 h.nx hal4).trans ga4
      have hc : 1 ≤ 1 + L * 16 + k ∧ 1 + L * 16 + k ≤ 50 := by omega
      have cc := wk.wc (1 + L * 16 + k) hc.1 hc.2
      have lyc := lay_same cc
      have qc := (w.sl _ hc.1 hc.2).cells
      have pc := (w.sl _ hc.1 hc.2).one
      have hal6 := Nat.lt_of_lt_of_le hal4 e6.1
      simp (maxSteps := 2000000) (disch := omega) only [stp, ← decide_not, vEqz, eqz, vEqa, eqList, eqAtom, H.at, H.load, vBox, vNewSl, vBld, fill, Mx.part, vClear, vCopy, vBtos, source, lenV, V.isSl, Mx.room, slcut, cutOp, mkOp, bounds, natIn, H.kill, beq_self_eq_true, if_pos, if_neg, List.cons_append, List.nil_append, List.append_nil, List.length_cons, List.length_nil, List.length_set, List.take_succ_cons, List.take_zero, List.drop_succ_cons, List.drop_zero, List.take_nil, List.drop_nil, List.all_cons, List.all_nil, ite_self, if_true, if_false, ite_true, ite_false, reduceIte, reduceDIte, eq_self, ne_eq, gt_iff_lt, ge_iff_le, Option.map_some, Option.map_none, Nat.reduceAdd, Nat.reduceMul, Nat.reduceSub, Nat.reduceLT, Nat.reduceLeDiff, Nat.reduceEqDiff, Nat.reduceSucc, Int.reduceAdd, Int.reduceSub, Int.reduceMul, Int.reduceNeg, Int.reduceLT, Int.reduceLE, Int.reduceEq, Int.reduceNe, Int.reduceToNat, Int.reduceTMod, Int.reduceTDiv, Int.reduceFDiv, Int.reducePow, Nat.reduceMod, Nat.reduceAnd, Nat.reduceDiv, Nat.reducePow, L93_3, g6, ga6, cc]
      refine without_none (row := row) (T := T) (c := 1 + L * 16 + k) (b := b) (t := t) g6 (Nat.lt_of_lt_of_le hwl E6.1) wk hn hc ((w.sl _ hc.1 hc.2).ext E6) (o _ hc.1 hc.2) (w.sz _ hc.1 hc.2) (fun h7 e7 => ?_)
      have g7 := (e7.2 wr (Nat.lt_of_lt_of_le hwl E6.1)).trans g6
      simp (maxSteps := 2000000) (disch := omega) only [stp, ← decide_not, vEqz, eqz, vEqa, eqList, eqAtom, H.at, H.load, vBox, vNewSl, vBld, fill, Mx.part, vClear, vCopy, vBtos, source, lenV, V.isSl, Mx.room, slcut, cutOp, mkOp, bounds, natIn, H.kill, beq_self_eq_true, if_pos, if_neg, List.cons_append, List.nil_append, List.append_nil, List.length_cons, List.length_nil, List.length_set, List.take_succ_cons, List.take_zero, List.drop_succ_cons, List.drop_zero, List.take_nil, List.drop_nil, List.all_cons, List.all_nil, ite_self, if_true, if_false, ite_true, ite_false, reduceIte, reduceDIte, eq_self, ne_eq, gt_iff_lt, ge_iff_le, Option.map_some, Option.map_none, Nat.reduceAdd, Nat.reduceMul, Nat.reduceSub, Nat.reduceLT, Nat.reduceLeDiff, Nat.reduceEqDiff, Nat.reduceSucc, Int.reduceAdd, Int.reduceSub, Int.reduceMul, Int.reduceNeg, Int.reduceLT, Int.reduceLE, Int.reduceEq, Int.reduceNe, Int.reduceToNat, Int.reduceTMod, Int.reduceTDiv, Int.reduceFDiv, Int.reducePow, Nat.reduceMod, Nat.reduceAnd, Nat.reduceDiv, Nat.reducePow, g7, lyc, hrl, qc, pc]
      exact ⟨16 - (k + 1), by omega, k + 1, rfl, rfl, rfl, rfl, rfl, by omega, rfl, e6.trans (e7.trans (put_same g7))⟩
    · have : k = 16 := by omega
      subst this
      simp (maxSteps := 2000000) (disch := omega) only [stp, ← decide_not, vEqz, eqz, vEqa, eqList, eqAtom, H.at, H.load, vBox, vNewSl, vBld, fill, Mx.part, vClear, vCopy, vBtos, source, lenV, V.isSl, Mx.room, slcut, cutOp, mkOp, bounds, natIn, H.kill, beq_self_eq_true, if_pos, if_neg, List.cons_append, List.nil_append, List.append_nil, List.length_cons, List.length_nil, List.length_set, List.take_succ_cons, List.take_zero, List.drop_succ_cons, List.drop_zero, List.take_nil, List.drop_nil, List.all_cons, List.all_nil, ite_self, if_true, if_false, ite_true, ite_false, reduceIte, reduceDIte, eq_self, ne_eq, gt_iff_lt, ge_iff_le, Option.map_some, Option.map_none, Nat.reduceAdd, Nat.reduceMul, Nat.reduceSub, Nat.reduceLT, Nat.reduceLeDiff, Nat.reduceEqDiff, Nat.reduceSucc, Int.reduceAdd, Int.reduceSub, Int.reduceMul, Int.reduceNeg, Int.reduceLT, Int.reduceLE, Int.reduceEq, Int.reduceNe, Int.reduceToNat, Int.reduceTMod, Int.reduceTDiv, Int.reduceFDiv, Int.reducePow, Nat.reduceMod, Nat.reduceAnd, Nat.reduceDiv, Nat.reducePow, L93_3, K93_2]
      exact ⟨3 - (L + 1), by omega, L + 1, rfl, rfl, rfl, by omega, rfl, e6⟩
  · have : L = 3 := by omega
    subst this
    simp (maxSteps := 2000000) (disch := omega) only [stp, ← decide_not, vEqz, eqz, vEqa, eqList, eqAtom, H.at, H.load, vBox, vNewSl, vBld, fill, Mx.part, vClear, vCopy, vBtos, source, lenV, V.isSl, Mx.room, slcut, cutOp, mkOp, bounds, natIn, H.kill, beq_self_eq_true, if_pos, if_neg, List.cons_append, List.nil_append, List.append_nil, List.length_cons, List.length_nil, List.length_set, List.take_succ_cons, List.take_zero, List.drop_succ_cons, List.drop_zero, List.take_nil, List.drop_nil, List.all_cons, List.all_nil, ite_self, if_true, if_false, ite_true, ite_false, reduceIte, reduceDIte, eq_self, ne_eq, gt_iff_lt, ge_iff_le, Option.map_some, Option.map_none, Nat.reduceAdd, Nat.reduceMul, Nat.reduceSub, Nat.reduceLT, Nat.reduceLeDiff, Nat.reduceEqDiff, Nat.reduceSucc, Int.reduceAdd, Int.reduceSub, Int.reduceMul, Int.reduceNeg, Int.reduceLT, Int.reduceLE, Int.reduceEq, Int.reduceNe, Int.reduceToNat, Int.reduceTMod, Int.reduceTDiv, Int.reduceFDiv, Int.reducePow, Nat.reduceMod, Nat.reduceAnd, Nat.reduceDiv, Nat.reducePow, L93_1]
    exact q h5 (E4.trans e5)
theorem sh0 : bin .shl (.i .i64 1) (.i .i64 0) = some (.i .i64 1) := by kernel_rfl
theorem sh4 : bin .shl (.i .i64 1) (.i .i64 4) = some (.i .i64 16) := by kernel_rfl
theorem sh8 : bin .shl (.i .i64 1) (.i .i64 8) = some (.i .i64 256) := by kernel_rfl
theorem sh12 : bin .shl (.i .i64 1) (.i .i64 12) = some (.i .i64 4096) := by kernel_rfl
/-- the level of what is so far off -/
def lv (off : Int) : Nat := if off < 16 then 0 else if off < 256 then 1 else if off < 4096 then 2 else 3
theorem level {off : Int} {h : H} {Q : V → H → Prop} (q : Q (.i .i64 (lv off)) h) : @wF IP 132 [.i .i64 off] h ⟨Q⟩ := by
  simp (maxSteps := 2000000) (disch := omega) only [stp, ← decide_not, vEqz, eqz, vEqa, eqList, eqAtom, H.at, H.load, vBox, vNewSl, vBld, fill, Mx.part, vClear, vCopy, vBtos, source, lenV, V.isSl, Mx.room, slcut, cutOp, mkOp, bounds, natIn, H.kill, beq_self_eq_true, if_pos, if_neg, List.cons_append, List.nil_append, List.append_nil, List.length_cons, List.length_nil, List.length_set, List.take_succ_cons, List.take_zero, List.drop_succ_cons, List.drop_zero, List.take_nil, List.drop_nil, List.all_cons, List.all_nil, ite_self, if_true, if_false, ite_true, ite_false, reduceIte, reduceDIte, eq_self, ne_eq, gt_iff_lt, ge_iff_le, Option.map_some, Option.map_none, Nat.reduceAdd, Nat.reduceMul, Nat.reduceSub, Nat.reduceLT, Nat.reduceLeDiff, Nat.reduceEqDiff, Nat.reduceSucc, Int.reduceAdd, Int.reduceSub, Int.reduceMul, Int.reduceNeg, Int.reduceLT, Int.reduceLE, Int.reduceEq, Int.reduceNe, Int.reduceToNat, Int.reduceTMod, Int.reduceTDiv, Int.reduceFDiv, Int.reducePow, Nat.reduceMod, Nat.reduceAnd, Nat.reduceDiv, Nat.reducePow, f132, K132_1, K132_3, K132_4, K132_8, K132]
  unfold lv at q
  by_cases h1 : off < 16
  · rw [if_pos h1] at q
    simp (maxSteps := 2000000) (disch := omega) only [stp, ← decide_not, vEqz, eqz, vEqa, eqList, eqAtom, H.at, H.load, vBox, vNewSl, vBld, fill, Mx.part, vClear, vCopy, vBtos, source, lenV, V.isSl, Mx.room, slcut, cutOp, mkOp, bounds, natIn, H.kill, beq_self_eq_true, if_pos, if_neg, List.cons_append, List.nil_append, List.append_nil, List.length_cons, List.length_nil, List.length_set, List.take_succ_cons, List.take_zero, List.drop_succ_cons, List.drop_zero, List.take_nil, List.drop_nil, List.all_cons, List.all_nil, ite_self, if_true, if_false, ite_true, ite_false, reduceIte, reduceDIte, eq_self, ne_eq, gt_iff_lt, ge_iff_le, Option.map_some, Option.map_none, Nat.reduceAdd, Nat.reduceMul, Nat.reduceSub, Nat.reduceLT, Nat.reduceLeDiff, Nat.reduceEqDiff, Nat.reduceSucc, Int.reduceAdd, Int.reduceSub, Int.reduceMul, Int.reduceNeg, Int.reduceLT, Int.reduceLE, Int.reduceEq, Int.reduceNe, Int.reduceToNat, Int.reduceTMod, Int.reduceTDiv, Int.reduceFDiv, Int.reducePow, Nat.reduceMod, Nat.reduceAnd, Nat.reduceDiv, Nat.reducePow, W132_2_eq, L132_2, f129, K129, sh4, K132_1, K132_3, K132_4, K132_8, K132]
    exact q
  · rw [if_neg h1] at q
    by_cases h2 : off < 256
    · rw [if_pos h2] at q
      rw [W132_2_eq]
      simp (maxSteps := 2000000) (disch := omega) only [stp, ← decide_not, vEqz, eqz, vEqa, eqList, eqAtom, H.at, H.load, vBox, vNewSl, vBld, fill, Mx.part, vClear, vCopy, vBtos, source, lenV, V.isSl, Mx.room, slcut, cutOp, mkOp, bounds, natIn, H.kill, beq_self_eq_true, if_pos, if_neg, List.cons_append, List.nil_append, List.append_nil, List.length_cons, List.length_nil, List.length_set, List.take_succ_cons, List.take_zero, List.drop_succ_cons, List.drop_zero, List.take_nil, List.drop_nil, List.all_cons, List.all_nil, ite_self, if_true, if_false, ite_true, ite_false, reduceIte, reduceDIte, eq_self, ne_eq, gt_iff_lt, ge_iff_le, Option.map_some, Option.map_none, Nat.reduceAdd, Nat.reduceMul, Nat.reduceSub, Nat.reduceLT, Nat.reduceLeDiff, Nat.reduceEqDiff, Nat.reduceSucc, Int.reduceAdd, Int.reduceSub, Int.reduceMul, Int.reduceNeg, Int.reduceLT, Int.reduceLE, Int.reduceEq, Int.reduceNe, Int.reduceToNat, Int.reduceTMod, Int.reduceTDiv, Int.reduceFDiv, Int.reducePow, Nat.reduceMod, Nat.reduceAnd, Nat.reduceDiv, Nat.reducePow, L132_2, f129, K129, sh4, K132_1, K132_3, K132_4, K132_8, K132]
      rw [W132_2_eq]
      simp (maxSteps := 2000000) (disch := omega) only [stp, ← decide_not, vEqz, eqz, vEqa, eqList, eqAtom, H.at, H.load, vBox, vNewSl, vBld, fill, Mx.part, vClear, vCopy, vBtos, source, lenV, V.isSl, Mx.room, slcut, cutOp, mkOp, bounds, natIn, H.kill, beq_self_eq_true, if_pos, if_neg, List.cons_append, List.nil_append, List.append_nil, List.length_cons, List.length_nil, List.length_set, List.take_succ_cons, List.take_zero, List.drop_succ_cons, List.drop_zero, List.take_nil, List.drop_nil, List.all_cons, List.all_nil, ite_self, if_true, if_false, ite_true, ite_false, reduceIte, reduceDIte, eq_self, ne_eq, gt_iff_lt, ge_iff_le, Option.map_some, Option.map_none, Nat.reduceAdd, Nat.reduceMul, Nat.reduceSub, Nat.reduceLT, Nat.reduceLeDiff, Nat.reduceEqDiff, Nat.reduceSucc, Int.reduceAdd, Int.reduceSub, Int.reduceMul, Int.reduceNeg, Int.reduceLT, Int.reduceLE, Int.reduceEq, Int.reduceNe, Int.reduceToNat, Int.reduceTMod, Int.reduceTDiv, Int.reduceFDiv, Int.reducePow, Nat.reduceMod, Nat.reduceAnd, Nat.reduceDiv, Nat.reducePow, L132_2, f129, K129, sh8, K132_1, K132_3, K132_4, K132_8, K132]
      exact q
    · rw [if_neg h2] at q
      rw [W132_2_eq]
      simp (maxSteps := 2000000) (disch := omega) only [stp, ← decide_not, vEqz, eqz, vEqa, eqList, eqAtom, H.at, H.load, vBox, vNewSl, vBld, fill, Mx.part, vClear, vCopy, vBtos, source, lenV, V.isSl, Mx.room, slcut, cutOp, mkOp, bounds, natIn, H.kill, beq_self_eq_true, if_pos, if_neg, List.cons_append, List.nil_append, List.append_nil, List.length_cons, List.length_nil, List.length_set, List.take_succ_cons, List.take_zero, List.drop_succ_cons, List.drop_zero, List.take_nil, List.drop_nil, List.all_cons, List.all_nil, ite_self, if_true, if_false, ite_true, ite_false, reduceIte, reduceDIte, eq_self, ne_eq, gt_iff_lt, ge_iff_le, Option.map_some, Option.map_none, Nat.reduceAdd, Nat.reduceMul, Nat.reduceSub, Nat.reduceLT, Nat.reduceLeDiff, Nat.reduceEqDiff, Nat.reduceSucc, Int.reduceAdd, Int.reduceSub, Int.reduceMul, Int.reduceNeg, Int.reduceLT, Int.reduceLE, Int.reduceEq, Int.reduceNe, Int.reduceToNat, Int.reduceTMod, Int.reduceTDiv, Int.reduceFDiv, Int.reducePow, Nat.reduceMod, Nat.reduceAnd, Nat.reduceDiv, Nat.reducePow, L132_2, f129, K129, sh4, K132_1, K132_3, K132_4, K132_8, K132]
      rw [W132_2_eq]
      simp (maxSteps := 2000000) (disch := omega) only [stp, ← decide_not, vEqz, eqz, vEqa, eqList, eqAtom, H.at, H.load, vBox, vNewSl, vBld, fill, Mx.part, vClear, vCopy, vBtos, source, lenV, V.isSl, Mx.room, slcut, cutOp, mkOp, bounds, natIn, H.kill, beq_self_eq_true, if_pos, if_neg, List.cons_append, List.nil_append, List.append_nil, List.length_cons, List.length_nil, List.length_set, List.take_succ_cons, List.take_zero, List.drop_succ_cons, List.drop_zero, List.take_nil, List.drop_nil, List.all_cons, List.all_nil, ite_self, if_true, if_false, ite_true, ite_false, reduceIte, reduceDIte, eq_self, ne_eq, gt_iff_lt, ge_iff_le, Option.map_some, Option.map_none, Nat.reduceAdd, Nat.reduceMul, Nat.reduceSub, Nat.reduceLT, Nat.reduceLeDiff, Nat.reduceEqDiff, Nat.reduceSucc, Int.reduceAdd, Int.reduceSub, Int.reduceMul, Int.reduceNeg, Int.reduceLT, Int.reduceLE, Int.reduceEq, Int.reduceNe, Int.reduceToNat, Int.reduceTMod, Int.reduceTDiv, Int.reduceFDiv, Int.reducePow, Nat.reduceMod, Nat.reduceAnd, Nat.reduceDiv, Nat.reducePow, L132_2, f129, K129, sh8, K132_1, K132_3, K132_4, K132_8, K132]
      rw [W132_2_eq]
      by_cases h3 : off < 4096
      · rw [if_pos h3] at q
        simp (maxSteps := 2000000) (disch := omega) only [stp, ← decide_not, vEqz, eqz, vEqa, eqList, eqAtom, H.at, H.load, vBox, vNewSl, vBld, fill, Mx.part, vClear, vCopy, vBtos, source, lenV, V.isSl, Mx.room, slcut, cutOp, mkOp, bounds, natIn, H.kill, beq_self_eq_true, if_pos, if_neg, List.cons_append, List.nil_append, List.append_nil, List.length_cons, List.length_nil, List.length_set, List.take_succ_cons, List.take_zero, List.drop_succ_cons, List.drop_zero, List.take_nil, List.drop_nil, List.all_cons, List.all_nil, ite_self, if_true, if_false, ite_true, ite_false, reduceIte, reduceDIte, eq_self, ne_eq, gt_iff_lt, ge_iff_le, Option.map_some, Option.map_none, Nat.reduceAdd, Nat.reduceMul, Nat.reduceSub, Nat.reduceLT, Nat.reduceLeDiff, Nat.reduceEqDiff, Nat.reduceSucc, Int.reduceAdd, Int.reduceSub, Int.reduceMul, Int.reduceNeg, Int.reduceLT, Int.reduceLE, Int.reduceEq, Int.reduceNe, Int.reduceToNat, Int.reduceTMod, Int.reduceTDiv, Int.reduceFDiv, Int.reducePow, Nat.reduceMod, Nat.reduceAnd, Nat.reduceDiv, Nat.reducePow, L132_2, f129, K129, sh12, K132_1, K132_3, K132_4, K132_8, K132]
        exact q
      · rw [if_neg h3] at q
        simp (maxSteps := 2000000) (disch := omega) only [stp, ← decide_not, vEqz, eqz, vEqa, eqList, eqAtom, H.at, H.load, vBox, vNewSl, vBld, fill, Mx.part, vClear, vCopy, vBtos, source, lenV, V.isSl, Mx.room, slcut, cutOp, mkOp, bounds, natIn, H.kill, beq_self_eq_true, if_pos, if_neg, List.cons_append, List.nil_append, List.append_nil, List.length_cons, List.length_nil, List.length_set, List.take_succ_cons, List.take_zero, List.drop_succ_cons, List.drop_zero, List.take_nil, List.drop_nil, List.all_cons, List.all_nil, ite_self, if_true, if_false, ite_true, ite_false, reduceIte, reduceDIte, eq_self, ne_eq, gt_iff_lt, ge_iff_le, Option.map_some, Option.map_none, Nat.reduceAdd, Nat.reduceMul, Nat.reduceSub, Nat.reduceLT, Nat.reduceLeDiff, Nat.reduceEqDiff, Nat.reduceSucc, Int.reduceAdd, Int.reduceSub, Int.reduceMul, Int.reduceNeg, Int.reduceLT, Int.reduceLE, Int.reduceEq, Int.reduceNe, Int.reduceToNat, Int.reduceTMod, Int.reduceTDiv, Int.reduceFDiv, Int.reducePow, Nat.reduceMod, Nat.reduceAnd, Nat.reduceDiv, Nat.reducePow, L132_2, f129, K129, sh12, K132_1, K132_3, K132_4, K132_8, K132]
        rw [W132_2_eq]
        simp (maxSteps := 2000000) (disch := omega) only [stp, ← decide_not, vEqz, eqz, vEqa, eqList, eqAtom, H.at, H.load, vBox, vNewSl, vBld, fill, Mx.part, vClear, vCopy, vBtos, source, lenV, V.isSl, Mx.room, slcut, cutOp, mkOp, bounds, natIn, H.kill, beq_self_eq_true, if_pos, if_neg, List.cons_append, List.nil_append, List.append_nil, List.length_cons, List.length_nil, List.length_set, List.take_succ_cons, List.take_zero, List.drop_succ_cons, List.drop_zero, List.take_nil, List.drop_nil, List.all_cons, List.all_nil, ite_self, if_true, if_false, ite_true, ite_false, reduceIte, reduceDIte, eq_self, ne_eq, gt_iff_lt, ge_iff_le, Option.map_some, Option.map_none, Nat.reduceAdd, Nat.reduceMul, Nat.reduceSub, Nat.reduceLT, Nat.reduceLeDiff, Nat.reduceEqDiff, Nat.reduceSucc, Int.reduceAdd, Int.reduceSub, Int.reduceMul, Int.reduceNeg, Int.reduceLT, Int.reduceLE, Int.reduceEq, Int.reduceNe, Int.reduceToNat, Int.reduceTMod, Int.reduceTDiv, Int.reduceFDiv, Int.reducePow, Nat.reduceMod, Nat.reduceAnd, Nat.reduceDiv, Nat.reducePow, L132_2, f129, K129, K132_1, K132_3, K132_4, K132_8, K132]
        exact q
theorem tslot {a wd : Int} (ha : 0 ≤ a ∧ a ≤ 1099511627776) (hw : wd = 1 ∨ wd = 16 ∨ wd = 256) {h : H} {Q : V → H → Prop} (q : Q (.i .i64 (a / wd % 16)) h) : @wF IP 130 [.i .i64 a, .i .i64 wd, .i .i64 16] h ⟨Q⟩ := by
  have e1 : ∀ x y : Int, 0 ≤ x → x.tdiv y = x / y := fun x y hx => Int.tdiv_eq_ediv_of_nonneg hx
  have e2 : ∀ x y : Int, 0 ≤ x → x.tmod y = x % y := fun x y hx => Int.tmod_eq_emod_of_nonneg hx
  rcases hw with rfl | rfl | rfl
  · have hb : 0 ≤ a / 1 ∧ a / 1 ≤ 1099511627776 := by omega
    have e3 := e2 (a / 1) 16 hb.1
    simp (maxSteps := 2000000) (disch := omega) only [stp, ← decide_not, vEqz, eqz, vEqa, eqList, eqAtom, H.at, H.load, vBox, vNewSl, vBld, fill, Mx.part, vClear, vCopy, vBtos, source, lenV, V.isSl, Mx.room, slcut, cutOp, mkOp, bounds, natIn, H.kill, beq_self_eq_true, if_pos, if_neg, List.cons_append, List.nil_append, List.append_nil, List.length_cons, List.length_nil, List.length_set, List.take_succ_cons, List.take_zero, List.drop_succ_cons, List.drop_zero, List.take_nil, List.drop_nil, List.all_cons, List.all_nil, ite_self, if_true, if_false, ite_true, ite_false, reduceIte, reduceDIte, eq_self, ne_eq, gt_iff_lt, ge_iff_le, Option.map_some, Option.map_none, Nat.reduceAdd, Nat.reduceMul, Nat.reduceSub, Nat.reduceLT, Nat.reduceLeDiff, Nat.reduceEqDiff, Nat.reduceSucc, Int.reduceAdd, Int.reduceSub, Int.reduceMul, Int.reduceNeg, Int.reduceLT, Int.reduceLE, Int.reduceEq, Int.reduceNe, Int.reduceToNat, Int.reduceTMod, Int.reduceTDiv, Int.reduceFDiv, Int.reducePow, Nat.reduceMod, Nat.reduceAnd, Nat.reduceDiv, Nat.reducePow, f130, K130_1, K130_2, K130_6, K130, f86, K86, K130_1, K130_2, K130_6, K130, e1 a 1 ha.1, e3]
    exact q
  · have hb : 0 ≤ a / 16 ∧ a / 16 ≤ 1099511627776 := by omega
    have e3 := e2 (a / 16) 16 hb.1
    simp (maxSteps := 2000000) (disch := omega) only [stp, ← decide_not, vEqz, eqz, vEqa, eqList, eqAtom, H.at, H.load, vBox, vNewSl, vBld, fill, Mx.part, vClear, vCopy, vBtos, source, lenV, V.isSl, Mx.room, slcut, cutOp, mkOp, bounds, natIn, H.kill, beq_self_eq_true, if_pos, if_neg, List.cons_append, List.nil_append, List.append_nil, List.length_cons, List.length_nil, List.length_set, List.take_succ_cons, List.take_zero, List.drop_succ_cons, List.drop_zero, List.take_nil, List.drop_nil, List.all_cons, List.all_nil, ite_self, if_true, if_false, ite_true, ite_false, reduceIte, reduceDIte, eq_self, ne_eq, gt_iff_lt, ge_iff_le, Option.map_some, Option.map_none, Nat.reduceAdd, Nat.reduceMul, Nat.reduceSub, Nat.reduceLT, Nat.reduceLeDiff, Nat.reduceEqDiff, Nat.reduceSucc, Int.reduceAdd, Int.reduceSub, Int.reduceMul, Int.reduceNeg, Int.reduceLT, Int.reduceLE, Int.reduceEq, Int.reduceNe, Int.reduceToNat, Int.reduceTMod, Int.reduceTDiv, Int.reduceFDiv, Int.reducePow, Nat.reduceMod, Nat.reduceAnd, Nat.reduceDiv, Nat.reducePow, f130, K130_1, K130_2, K130_6, K130, f86, K86, K130_1, K130_2, K130_6, K130, e1 a 16 ha.1, e3]
    exact q
  · have hb : 0 ≤ a / 256 ∧ a / 256 ≤ 1099511627776 := by omega
    have e3 := e2 (a / 256) 16 hb.1
    simp (maxSteps := 2000000) (disch := omega) only [stp, ← decide_not, vEqz, eqz, vEqa, eqList, eqAtom, H.at, H.load, vBox, vNewSl, vBld, fill, Mx.part, vClear, vCopy, vBtos, source, lenV, V.isSl, Mx.room, slcut, cutOp, mkOp, bounds, natIn, H.kill, beq_self_eq_true, if_pos, if_neg, List.cons_append, List.nil_append, List.append_nil, List.length_cons, List.length_nil, List.length_set, List.take_succ_cons, List.take_zero, List.drop_succ_cons, List.drop_zero, List.take_nil, List.drop_nil, List.all_cons, List.all_nil, ite_self, if_true, if_false, ite_true, ite_false, reduceIte, reduceDIte, eq_self, ne_eq, gt_iff_lt, ge_iff_le, Option.map_some, Option.map_none, Nat.reduceAdd, Nat.reduceMul, Nat.reduceSub, Nat.reduceLT, Nat.reduceLeDiff, Nat.reduceEqDiff, Nat.reduceSucc, Int.reduceAdd, Int.reduceSub, Int.reduceMul, Int.reduceNeg, Int.reduceLT, Int.reduceLE, Int.reduceEq, Int.reduceNe, Int.reduceToNat, Int.reduceTMod, Int.reduceTDiv, Int.reduceFDiv, Int.reducePow, Nat.reduceMod, Nat.reduceAnd, Nat.reduceDiv, Nat.reducePow, f130, K130_1, K130_2, K130_6, K130, f86, K86, K130_1, K130_2, K130_6, K130, e1 a 256 ha.1, e3]
    exact q
theorem app_e {h : H} {T : V} {E : List (List V)} (s : Sle h T E) (hw : ∀ e ∈ E, e.length = 6) (hl : E.length ≤ 1000) {rn : Nat} {ro : Bool} {c : Cap} {r : List V} (hn : h.get rn = some ⟨ro, r⟩) (hr : r.length = 6) (h1 : r.all V.one = true) :
    ∃ h', vApp 6 48 T (.sl rn 0 1 c) h = some (.sl h.nx 0 (E.length + 1) (.op 6), h') ∧ h'.get h.nx = some ⟨false, (E ++ [r]).flatten⟩ ∧ h'.nx = h.nx + 1 ∧ ∀ id, id < h.nx → (∀ m k, T ≠ .sl id 0 m k) → h'.get id = h.get id := by
  have hsrc : source 6 h (.sl rn 0 1 c) = some r := by
    simp only [source, H.load, hn, Nat.one_mul]
    exact cut_all hr
  have hfl := flat_len hw
  unfold vApp
  simp only [hsrc, lenV]
  rcases s with ⟨rfl, rfl⟩ | ⟨id, rfl, k1, k2⟩
  · refine ⟨h.new ⟨false, r⟩, ?_, by simp, by simp, fun i h2 _ => by rw [H.get_new, if_neg (by omega)]⟩
    simp only [append1]
    rw [if_neg (by omega), if_pos ⟨by unfold room; omega, by unfold room; omega⟩]
    rfl
  · refine ⟨(h.kill id).new ⟨false, E.flatten ++ r⟩, ?_, by simp, by simp, fun i h2 h3 => ?_⟩
    · have hc : cut E.flatten 0 (E.length * 6) = some E.flatten := by
        unfold cut
        rw [if_pos (by omega), List.drop_zero, ← hfl, List.take_length]
      simp only [append1, H.load, k1, Bool.false_eq_true, if_false, h1, hc]
      rw [if_neg (by omega), if_neg (by simp), if_neg (by omega), if_pos ⟨by unfold room; omega, by unfold room; omega, trivial⟩]
    · rw [H.get_new, H.nx_kill, if_neg (by omega), H.get_kill, if_neg (by rintro rfl; exact h3 _ _ rfl)]
def upd {α : Type} (g : Nat → α) (s : Nat) (v : α) : Nat → α := fun j => if j = s then v else g j
theorem upd_at {α : Type} (g : Nat → α) (s : Nat) (v : α) : upd g s v s = v := by unfold upd; rw [if_pos rfl]
theorem upd_ne {α : Type} (g : Nat → α) {s j : Nat} (v : α) (h : j ≠ s) : upd g s v j = g j := by unfold upd; rw [if_neg h]
theorem Wr.setc {row : List V} {T : Nat → V} {now n laid : Int} (w : Wr row T now n laid) {c : Nat} (hc : 1 ≤ c ∧ c ≤ 50) (v : V) : Wr (row.set c v) (upd T c v) now n laid := by
  have hl := w.len
  refine ⟨by rw [List.length_set]; exact hl, ?_, fun j h1 h2 => ?_, ?_, ?_⟩
  · rw [List.getElem?_set, if_neg (by omega)]; exact w.w0
  · rw [List.getElem?_set]
    by_cases hj : c = j
    · subst hj; rw [if_pos rfl, if_pos (by omega), upd_at]
    · rw [if_neg hj, upd_ne _ _ (Ne.symm hj)]; exact w.wc j h1 h2
  · rw [List.getElem?_set, if_neg (by omega)]; exact w.wn
  · rw [List.getElem?_set, if_neg (by omega)]; exact w.wl
theorem Wr.setn {row : List V} {T : Nat → V} {now n laid : Int} (w : Wr row T now n laid) (n' : Int) : Wr (row.set 51 (.i .i64 n')) T now n' laid := by
  have hl := w.len
  refine ⟨by rw [List.length_set]; exact hl, ?_, fun j h1 h2 => ?_, ?_, ?_⟩
  · rw [List.getElem?_set, if_neg (by omega)]; exact w.w0
  · rw [List.getElem?_set, if_neg (by omega)]; exact w.wc j h1 h2
  · rw [List.getElem?_set, if_pos rfl, if_pos (by omega)]
  · rw [List.getElem?_set, if_neg (by omega)]; exact w.wl
theorem Wr.setl {row : List V} {T : Nat → V} {now n laid : Int} (w : Wr row T now n laid) (l' : Int) : Wr (row.set 52 (.i .i64 l')) T now n l' := by
  have hl := w.len
  refine ⟨by rw [List.length_set]; exact hl, ?_, fun j h1 h2 => ?_, ?_, ?_⟩
  · rw [List.getElem?_set, if_neg (by omega)]; exact w.w0
  · rw [List.getElem?_set, if_neg (by omega)]; exact w.wc j h1 h2
  · rw [List.getElem?_set, if_neg (by omega)]; exact w.wn
  · rw [List.getElem?_set, if_pos rfl, if_pos (by omega)]
/-- one entry more in a cell -/
theorem Wh.add {ar : Nat} {ao : O} {h h' : H} {wr : Nat} {T : Nat → V} {E : Nat → List (List V)} {now n laid : Int} (w : Wh ar ao h wr T E now n laid) {c nid : Nat} {r : List V} {row : List V} (hc : 1 ≤ c ∧ c ≤ 50) (hr : r.length = 6) (hs : (E c).length < 1000) (hnid : h.nx ≤ nid) (hnx : nid < h'.nx)
    (g1 : h'.get nid = some ⟨false, (E c ++ [r]).flatten⟩) (g2 : h'.get wr = some ⟨false, row⟩) (wk : Wr row (upd T c (.sl nid 0 ((E c).length + 1) (.op 6))) now n laid) (g3 : ∀ id, id < h.nx → id ≠ wr → (∀ m k, T c ≠ .sl id 0 m k) → h'.get id = h.get id) :
    Wh ar ao h' wr (upd T c (.sl nid 0 ((E c).length + 1) (.op 6))) (upd E c (E c ++ [r])) now n laid := by
  have hlt := w.lt
  have bel : ∀ c' id m k, 1 ≤ c' → c' ≤ 50 → T c' = .sl id 0 m k → id < h.nx := by
    intro c' id m k h1 h2 e
    rcases w.sl c' h1 h2 with ⟨e2, _⟩ | ⟨id2, e2, _, h5⟩
    · rw [e2] at e; cases e
    · rw [e2] at e; cases e; exact h5
  refine ⟨⟨row, g2, wk⟩, by omega, fun c' h1 h2 => ?_, fun c' h1 h2 => ?_, fun c' h1 h2 e he => ?_, ⟨?_, by have := w.kp.2.1; omega, w.kp.2.2.1, fun c' m k h1 h2 e => ?_⟩, fun c' id m k h1 h2 e => ?_, fun c1 c2 id m k m' k' h1 h2 h3 h4 e1 e2 => ?_⟩
  · by_cases hcc : c' = c
    · subst hcc
      rw [upd_at, upd_at]
      exact .inr ⟨nid, by simp, g1, hnx⟩
    · rw [upd_ne _ _ hcc, upd_ne _ _ hcc]
      rcases w.sl c' h1 h2 with h5 | ⟨id, e2, h5, h6⟩
      · exact .inl h5
      · refine .inr ⟨id, e2, (g3 id h6 (w.sep c' id _ _ h1 h2 e2) (fun m k e => hcc ?_)).trans h5, by omega⟩
        exact w.inj c' c id _ _ _ _ h1 h2 hc.1 hc.2 e2 e
  · by_cases hcc : c' = c
    · subst hcc; rw [upd_at, List.length_append, List.length_singleton]; omega
    · rw [upd_ne _ _ hcc]; exact w.sz c' h1 h2
  · by_cases hcc : c' = c
    · subst hcc
      rw [upd_at] at he
      simp only [List.mem_append, List.mem_singleton] at he
      rcases he with he | rfl
      · exact w.wd c' h1 h2 e he
      · exact hr
    · rw [upd_ne _ _ hcc] at he; exact w.wd c' h1 h2 e he
  · exact (g3 ar w.kp.2.1 w.kp.2.2.1 (fun m k => w.kp.2.2.2 c m k hc.1 hc.2)).trans w.kp.1
  · by_cases hcc : c' = c
    · subst hcc; rw [upd_at] at e; cases e; have := w.kp.2.1; omega
    · rw [upd_ne _ _ hcc] at e; exact w.kp.2.2.2 c' m k h1 h2 e
  · by_cases hcc : c' = c
    · subst hcc; rw [upd_at] at e; cases e; omega
    · rw [upd_ne _ _ hcc] at e; exact w.sep c' id m k h1 h2 e
  · by_cases hc1 : c1 = c
    · by_cases hc2 : c2 = c
      · rw [hc1, hc2]
      · subst hc1
        rw [upd_at] at e1
        rw [upd_ne _ _ hc2] at e2
        cases e1
        have := bel c2 _ _ _ h3 h4 e2
        omega
    · by_cases hc2 : c2 = c
      · subst hc2
        rw [upd_at] at e2
        rw [upd_ne _ _ hc1] at e1
        cases e2
        have := bel c1 _ _ _ h1 h2 e1
        omega
      · rw [upd_ne _ _ hc1] at e1
        rw [upd_ne _ _ hc2] at e2
        exact w.inj c1 c2 id m k m' k' h1 h2 h3 h4 e1 e2
def cell (a off : Int) : Nat := if off < 16 then 1 + (a / 1 % 16).toNat else if off < 256 then 17 + (a / 16 % 16).toNat else if off < 4096 then 33 + (a / 256 % 16).toNat else 49
theorem cell_in (a off : Int) : 1 ≤ cell a off ∧ cell a off ≤ 49 := by
  unfold cell
  split
  · omega
  · split
    · omega
    · split <;> omega
/-- an entry is laid in its place -/
theorem lay_ok {ar : Nat} {ao : O} {h : H} {wr : Nat} {T : Nat → V} {E : Nat → List (List V)} {now n laid a s no : Int} (w : Wh ar ao h wr T E now n laid) (hnow : 0 ≤ now) (ha : now < a ∧ a ≤ 1099511627776) (hs : (E (cell a (a - now))).length < 1000) {Q : V → H → Prop}
    (q : ∀ h' T', Wh ar ao h' wr T' (upd E (cell a (a - now)) (E (cell a (a - now)) ++ [ent a s no])) now n laid → h.nx ≤ h'.nx → (∀ j, j ≠ cell a (a - now) → T' j = T j) → Q (.tup []) h') :
    @wF IP 94 [.p (some (wr, 0)), .agg (ent a s no)] h ⟨Q⟩ := by
  obtain ⟨row, g0, wk⟩ := w.row
  have hrl := wk.len
  have hwl := w.lt
  have w0 := wk.w0
  have hne : wr ≠ h.nx := by omega
  have hci := cell_in a (a - now)
  obtain ⟨c, hcd⟩ : ∃ c, c = cell a (a - now) := ⟨_, rfl⟩
  rw [← hcd] at hci hs q
  have cc := wk.wc c (by omega) (by omega)
  have fin : ∀ {h1 : H}, Ext (h.new ⟨false, ent a s no⟩) h1 → h1.get h.nx = some ⟨false, ent a s no⟩ → ∃ h2, vApp 6 48 (T c) (.sl h1.nx 0 1 (.ex 1)) (h1.new ⟨false, ent a s no⟩) = some (.sl (h1.nx + 1) 0 ((E c).length + 1) (.op 6), h2) ∧ h2.get wr = some ⟨false, row⟩ ∧ Q (.tup []) (h2.put wr (some ⟨false, row.set c (.sl (h1.nx + 1) 0 ((E c).length + 1) (.op 6))⟩)) := by
    intro h1 e1 g1
    have E1 := (ext_new h ⟨false, ent a s no⟩).trans e1
    have E2 := E1.trans (ext_new h1 ⟨false, ent a s no⟩)
    have l1 := E1.1
    obtain ⟨h2, k1, k2, k3, k4⟩ := app_e ((w.sl c (by omega) (by omega)).ext E2) (w.wd c (by omega) (by omega)) (by omega) (rn := h1.nx) (ro := false) (c := .ex 1) (r := ent a s no) (by simp) rfl rfl
    simp only [H.nx_new] at k1 k2 k3 k4
    have hw2 : h2.get wr = some ⟨false, row⟩ := (k4 wr (by omega) (fun m k e => w.sep c wr m k (by omega) (by omega) e rfl)).trans ((E2.2 wr hwl).trans g0)
    refine ⟨h2, k1, hw2, q _ _ (w.add (c := c) (nid := h1.nx + 1) (r := ent a s no) (row := row.set c _) (by omega) rfl hs (by omega) (by simp only [H.nx_put]; omega) ?_ ?_ (wk.setc (by omega) _) (fun id h3 h4 h5 => ?_)) (by simp only [H.nx_put]; omega) (fun j hj => upd_ne _ _ hj)⟩
    · rw [H.get_put, if_neg (by omega)]; exact k2
    · rw [H.get_put, if_pos rfl]
    · rw [H.get_put, if_neg h4]
      exact (k4 id (by omega) h5).trans (E2.2 id h3)
  have hf := fin (Ext.refl _) (by simp)
  clear fin
  obtain ⟨h2, k1, hw2, kq⟩ := hf
  have wn2 : ∀ v, lay row c [v] = row.set c v := fun v => lay1 v (by omega)
  simp only [H.nx_new] at k1 kq
  unfold ent at *
  simp (maxSteps := 2000000) (disch := omega) only [stp, ← decide_not, vEqz, eqz, vEqa, eqList, eqAtom, H.at, H.load, vBox, vNewSl, vBld, fill, Mx.part, vClear, vCopy, vBtos, source, lenV, V.isSl, Mx.room, slcut, cutOp, mkOp, bounds, natIn, H.kill, beq_self_eq_true, if_pos, if_neg, List.cons_append, List.nil_append, List.append_nil, List.length_cons, List.length_nil, List.length_set, List.take_succ_cons, List.take_zero, List.drop_succ_cons, List.drop_zero, List.take_nil, List.drop_nil, List.all_cons, List.all_nil, ite_self, if_true, if_false, ite_true, ite_false, reduceIte, reduceDIte, eq_self, ne_eq, gt_iff_lt, ge_iff_le, Option.map_some, Option.map_none, Nat.reduceAdd, Nat.reduceMul, Nat.reduceSub, Nat.reduceLT, Nat.reduceLeDiff, Nat.reduceEqDiff, Nat.reduceSucc, Int.reduceAdd, Int.reduceSub, Int.reduceMul, Int.reduceNeg, Int.reduceLT, Int.reduceLE, Int.reduceEq, Int.reduceNe, Int.reduceToNat, Int.reduceTMod, Int.reduceTDiv, Int.reduceFDiv, Int.reducePow, Nat.reduceMod, Nat.reduceAnd, Nat.reduceDiv, Nat.reducePow, f94, K94, g0, w0, hne]
  refine level ?_
  by_cases h16 : a - now < 16
  · have hc2 : c = 1 + (a / 1 % 16).toNat := by rw [hcd]; unfold cell; rw [if_pos h16]
    subst hc2
    rw [show lv (a - now) = 0 by unfold lv; rw [if_pos h16]]
    simp (maxSteps := 2000000) (disch := omega) only [stp, ← decide_not, vEqz, eqz, vEqa, eqList, eqAtom, H.at, H.load, vBox, vNewSl, vBld, fill, Mx.part, vClear, vCopy, vBtos, source, lenV, V.isSl, Mx.room, slcut, cutOp, mkOp, bounds, natIn, H.kill, beq_self_eq_true, if_pos, if_neg, List.cons_append, List.nil_append, List.append_nil, List.length_cons, List.length_nil, List.length_set, List.take_succ_cons, List.take_zero, List.drop_succ_cons, List.drop_zero, List.take_nil, List.drop_nil, List.all_cons, List.all_nil, ite_self, if_true, if_false, ite_true, ite_false, reduceIte, reduceDIte, eq_self, ne_eq, gt_iff_lt, ge_iff_le, Option.map_some, Option.map_none, Nat.reduceAdd, Nat.reduceMul, Nat.reduceSub, Nat.reduceLT, Nat.reduceLeDiff, Nat.reduceEqDiff, Nat.reduceSucc, Int.reduceAdd, Int.reduceSub, Int.reduceMul, Int.reduceNeg, Int.reduceLT, Int.reduceLE, Int.reduceEq, Int.reduceNe, Int.reduceToNat, Int.reduceTMod, Int.reduceTDiv, Int.reduceFDiv, Int.reducePow, Nat.reduceMod, Nat.reduceAnd, Nat.reduceDiv, Nat.reducePow, K94, f129, K129, sh0]
    refine tslot (wd := 1) ⟨by omega, by omega⟩ (.inl rfl) ?_
    simp (maxSteps := 2000000) (disch := omega) only [stp, ← decide_not, vEqz, eqz, vEqa, eqList, eqAtom, H.at, H.load, vBox, vNewSl, vBld, fill, Mx.part, vClear, vCopy, vBtos, source, lenV, V.isSl, Mx.room, slcut, cutOp, mkOp, bounds, natIn, H.kill, beq_self_eq_true, if_pos, if_neg, List.cons_append, List.nil_append, List.append_nil, List.length_cons, List.length_nil, List.length_set, List.take_succ_cons, List.take_zero, List.drop_succ_cons, List.drop_zero, List.take_nil, List.drop_nil, List.all_cons, List.all_nil, ite_self, if_true, if_false, ite_true, ite_false, reduceIte, reduceDIte, eq_self, ne_eq, gt_iff_lt, ge_iff_le, Option.map_some, Option.map_none, Nat.reduceAdd, Nat.reduceMul, Nat.reduceSub, Nat.reduceLT, Nat.reduceLeDiff, Nat.reduceEqDiff, Nat.reduceSucc, Int.reduceAdd, Int.reduceSub, Int.reduceMul, Int.reduceNeg, Int.reduceLT, Int.reduceLE, Int.reduceEq, Int.reduceNe, Int.reduceToNat, Int.reduceTMod, Int.reduceTDiv, Int.reduceFDiv, Int.reducePow, Nat.reduceMod, Nat.reduceAnd, Nat.reduceDiv, Nat.reducePow, g0, hne, cc, k1, hw2, wn2, hrl]
    exact kq
  · by_cases h256 : a - now < 256
    · have hc2 : c = 17 + (a / 16 % 16).toNat := by rw [hcd]; unfold cell; rw [if_neg h16, if_pos h256]
      subst hc2
      rw [show lv (a - now) = 1 by unfold lv; rw [if_neg h16, if_pos h256]]
      simp (maxSteps := 2000000) (disch := omega) only [stp, ← decide_not, vEqz, eqz, vEqa, eqList, eqAtom, H.at, H.load, vBox, vNewSl, vBld, fill, Mx.part, vClear, vCopy, vBtos, source, lenV, V.isSl, Mx.room, slcut, cutOp, mkOp, bounds, natIn, H.kill, beq_self_eq_true, if_pos, if_neg, List.cons_append, List.nil_append, List.append_nil, List.length_cons, List.length_nil, List.length_set, List.take_succ_cons, List.take_zero, List.drop_succ_cons, List.drop_zero, List.take_nil, List.drop_nil, List.all_cons, List.all_nil, ite_self, if_true, if_false, ite_true, ite_false, reduceIte, reduceDIte, eq_self, ne_eq, gt_iff_lt, ge_iff_le, Option.map_some, Option.map_none, Nat.reduceAdd, Nat.reduceMul, Nat.reduceSub, Nat.reduceLT, Nat.reduceLeDiff, Nat.reduceEqDiff, Nat.reduceSucc, Int.reduceAdd, Int.reduceSub, Int.reduceMul, Int.reduceNeg, Int.reduceLT, Int.reduceLE, Int.reduceEq, Int.reduceNe, Int.reduceToNat, Int.reduceTMod, Int.reduceTDiv, Int.reduceFDiv, Int.reducePow, Nat.reduceMod, Nat.reduceAnd, Nat.reduceDiv, Nat.reducePow, K94, f129, K129, sh4]
      refine tslot (wd := 16) ⟨by omega, by omega⟩ (.inr (.inl rfl)) ?_
      simp (maxSteps := 2000000) (disch := omega) only [stp, ← decide_not, vEqz, eqz, vEqa, eqList, eqAtom, H.at, H.load, vBox, vNewSl, vBld, fill, Mx.part, vClear, vCopy, vBtos, source, lenV, V.isSl, Mx.room, slcut, cutOp, mkOp, bounds, natIn, H.kill, beq_self_eq_true, if_pos, if_neg, List.cons_append, List.nil_append, List.append_nil, List.length_cons, List.length_nil, List.length_set, List.take_succ_cons, List.take_zero, List.drop_succ_cons, List.drop_zero, List.take_nil, List.drop_nil, List.all_cons, List.all_nil, ite_self, if_true, if_false, ite_true, ite_false, reduceIte, reduceDIte, eq_self, ne_eq, gt_iff_lt, ge_iff_le, Option.map_some, Option.map_none, Nat.reduceAdd, Nat.reduceMul, Nat.reduceSub, Nat.reduceLT, Nat.reduceLeDiff, Nat.reduceEqDiff, Nat.reduceSucc, Int.reduceAdd, Int.reduceSub, Int.reduceMul, Int.reduceNeg, Int.reduceLT, Int.reduceLE, Int.reduceEq, Int.reduceNe, Int.reduceToNat, Int.reduceTMod, Int.reduceTDiv, Int.reduceFDiv, Int.reducePow, Nat.reduceMod, Nat.reduceAnd, Nat.reduceDiv, Nat.reducePow, g0, hne, cc, k1, hw2, wn2, hrl]
      exact kq
    · by_cases h4096 : a - now < 4096
      · have hc2 : c = 33 + (a / 256 % 16).toNat := by rw [hcd]; unfold cell; rw [if_neg h16, if_neg h256, if_pos h4096]
        subst hc2
        rw [show lv (a - now) = 2 by unfold lv; rw [if_neg h16, if_neg h256, if_pos h4096]]
        simp (maxSteps := 2000000) (disch := omega) only [stp, ← decide_not, vEqz, eqz, vEqa, eqList, eqAtom, H.at, H.load, vBox, vNewSl, vBld, fill, Mx.part, vClear, vCopy, vBtos, source, lenV, V.isSl, Mx.room, slcut, cutOp, mkOp, bounds, natIn, H.kill, beq_self_eq_true, if_pos, if_neg, List.cons_append, List.nil_append, List.append_nil, List.length_cons, List.length_nil, List.length_set, List.take_succ_cons, List.take_zero, List.drop_succ_cons, List.drop_zero, List.take_nil, List.drop_nil, List.all_cons, List.all_nil, ite_self, if_true, if_false, ite_true, ite_false, reduceIte, reduceDIte, eq_self, ne_eq, gt_iff_lt, ge_iff_le, Option.map_some, Option.map_none, Nat.reduceAdd, Nat.reduceMul, Nat.reduceSub, Nat.reduceLT, Nat.reduceLeDiff, Nat.reduceEqDiff, Nat.reduceSucc, Int.reduceAdd, Int.reduceSub, Int.reduceMul, Int.reduceNeg, Int.reduceLT, Int.reduceLE, Int.reduceEq, Int.reduceNe, Int.reduceToNat, Int.reduceTMod, Int.reduceTDiv, Int.reduceFDiv, Int.reducePow, Nat.reduceMod, Nat.reduceAnd, Nat.reduceDiv, Nat.reducePow, K94, f129, K129, sh8]
        refine tslot (wd := 256) ⟨by omega, by omega⟩ (.inr (.inr rfl)) ?_
        simp (maxSteps := 2000000) (disch := omega) only [stp, ← decide_not, vEqz, eqz, vEqa, eqList, eqAtom, H.at, H.load, vBox, vNewSl, vBld, fill, Mx.part, vClear, vCopy, vBtos, source, lenV, V.isSl, Mx.room, slcut, cutOp, mkOp, bounds, natIn, H.kill, beq_self_eq_true, if_pos, if_neg, List.cons_append, List.nil_append, List.append_nil, List.length_cons, List.length_nil, List.length_set, List.take_succ_cons, List.take_zero, List.drop_succ_cons, List.drop_zero, List.take_nil, List.drop_nil, List.all_cons, List.all_nil, ite_self, if_true, if_false, ite_true, ite_false, reduceIte, reduceDIte, eq_self, ne_eq, gt_iff_lt, ge_iff_le, Option.map_some, Option.map_none, Nat.reduceAdd, Nat.reduceMul, Nat.reduceSub, Nat.reduceLT, Nat.reduceLeDiff, Nat.reduceEqDiff, Nat.reduceSucc, Int.reduceAdd, Int.reduceSub, Int.reduceMul, Int.reduceNeg, Int.reduceLT, Int.reduceLE, Int.reduceEq, Int.reduceNe, Int.reduceToNat, Int.reduceTMod, Int.reduceTDiv, Int.reduceFDiv, Int.reducePow, Nat.reduceMod, Nat.reduceAnd, Nat.reduceDiv, Nat.reducePow, g0, hne, cc, k1, hw2, wn2, hrl]
        exact kq
      · have hc2 : c = 49 := by rw [hcd]; unfold cell; rw [if_neg h16, if_neg h256, if_neg h4096]
        subst hc2
        rw [show lv (a - now) = 3 by unfold lv; rw [if_neg h16, if_neg h256, if_neg h4096]]
        simp (maxSteps := 2000000) (disch := omega) only [stp, ← decide_not, vEqz, eqz, vEqa, eqList, eqAtom, H.at, H.load, vBox, vNewSl, vBld, fill, Mx.part, vClear, vCopy, vBtos, source, lenV, V.isSl, Mx.room, slcut, cutOp, mkOp, bounds, natIn, H.kill, beq_self_eq_true, if_pos, if_neg, List.cons_append, List.nil_append, List.append_nil, List.length_cons, List.length_nil, List.length_set, List.take_succ_cons, List.take_zero, List.drop_succ_cons, List.drop_zero, List.take_nil, List.drop_nil, List.all_cons, List.all_nil, ite_self, if_true, if_false, ite_true, ite_false, reduceIte, reduceDIte, eq_self, ne_eq, gt_iff_lt, ge_iff_le, Option.map_some, Option.map_none, Nat.reduceAdd, Nat.reduceMul, Nat.reduceSub, Nat.reduceLT, Nat.reduceLeDiff, Nat.reduceEqDiff, Nat.reduceSucc, Int.reduceAdd, Int.reduceSub, Int.reduceMul, Int.reduceNeg, Int.reduceLT, Int.reduceLE, Int.reduceEq, Int.reduceNe, Int.reduceToNat, Int.reduceTMod, Int.reduceTDiv, Int.reduceFDiv, Int.reducePow, Nat.reduceMod, Nat.reduceAnd, Nat.reduceDiv, Nat.reducePow, K94, g0, hne, cc, k1, hw2, wn2, hrl]
        exact kq
theorem Wh.putr {ar : Nat} {ao : O} {h : H} {wr : Nat} {T : Nat → V} {E : Nat → List (List V)} {now n laid n' laid' : Int} (w : Wh ar ao h wr T E now n laid) {row' : List V} (wk : Wr row' T now n' laid') : Wh ar ao (h.put wr (some ⟨false, row'⟩)) wr T E now n' laid' := by
  refine ⟨⟨row', by rw [H.get_put, if_pos rfl], wk⟩, w.lt, fun c h1 h2 => ?_, w.sz, w.wd, ⟨by rw [H.get_put, if_neg w.kp.2.2.1]; exact w.kp.1, w.kp.2⟩, w.sep, w.inj⟩
  rcases w.sl c h1 h2 with h5 | ⟨id, e2, h5, h6⟩
  · exact .inl h5
  · exact .inr ⟨id, e2, by rw [H.get_put, if_neg (w.sep c id _ _ h1 h2 e2)]; exact h5, h6⟩
theorem put_ok {ar : Nat} {ao : O} {h : H} {wr : Nat} {T : Nat → V} {E : Nat → List (List V)} {now n laid a s : Int} (w : Wh ar ao h wr T E now n laid) (hnow : 0 ≤ now) (hn : 0 ≤ n ∧ n < 256) (hlaid : 0 ≤ laid ∧ laid ≤ 1000) (ha : now < a ∧ a < 1099511627776) (o : ∀ c, 1 ≤ c → c ≤ 50 → Oth s (E c)) (hs : (E (cell a (a - now))).length < 1000) {Q : V → H → Prop}
    (q : ∀ h' T', Wh ar ao h' wr T' (upd E (cell a (a - now)) (E (cell a (a - now)) ++ [ent a s (laid + 1)])) now (n + 1) (laid + 1) → h.nx ≤ h'.nx → (∀ j, j ≠ cell a (a - now) → T' j = T j) → Q (.b true) h') :
    @wF IP 40 [.p (some (wr, 0)), .agg (alm a s)] h ⟨Q⟩ := by
  have hwl := w.lt
  unfold alm
  simp (maxSteps := 2000000) (disch := omega) only [stp, ← decide_not, vEqz, eqz, vEqa, eqList, eqAtom, H.at, H.load, vBox, vNewSl, vBld, fill, Mx.part, vClear, vCopy, vBtos, source, lenV, V.isSl, Mx.room, slcut, cutOp, mkOp, bounds, natIn, H.kill, beq_self_eq_true, if_pos, if_neg, List.cons_append, List.nil_append, List.append_nil, List.length_cons, List.length_nil, List.length_set, List.take_succ_cons, List.take_zero, List.drop_succ_cons, List.drop_zero, List.take_nil, List.drop_nil, List.all_cons, List.all_nil, ite_self, if_true, if_false, ite_true, ite_false, reduceIte, reduceDIte, eq_self, ne_eq, gt_iff_lt, ge_iff_le, Option.map_some, Option.map_none, Nat.reduceAdd, Nat.reduceMul, Nat.reduceSub, Nat.reduceLT, Nat.reduceLeDiff, Nat.reduceEqDiff, Nat.reduceSucc, Int.reduceAdd, Int.reduceSub, Int.reduceMul, Int.reduceNeg, Int.reduceLT, Int.reduceLE, Int.reduceEq, Int.reduceNe, Int.reduceToNat, Int.reduceTMod, Int.reduceTDiv, Int.reduceFDiv, Int.reducePow, Nat.reduceMod, Nat.reduceAnd, Nat.reduceDiv, Nat.reducePow, f40, K40_1, K40_2, K40_6, K40, f86, K86]
  have e0 : Ext h ((h.new ⟨false, alm a s⟩).put h.nx (some ⟨false, alm a s⟩)) := (ext_new _ _).trans (put_same (by simp))
  refine drop_none (w.ext e0) (by omega) o (fun h1 e1 => ?_)
  have E1 := e0.trans e1
  have l1 := E1.1
  have w1 := w.ext E1
  have ga : h1.get h.nx = some ⟨false, alm a s⟩ := (e1.2 h.nx (by simp)).trans (by simp)
  have hal : h.nx < h1.nx := by have := e1.1; simp at this; omega
  obtain ⟨row, g1, wk⟩ := w1.row
  have hrl := wk.len
  have wn := wk.wn
  have hne : wr ≠ h.nx := by omega
  have wk2 := wk.setn (n + 1)
  have wk3 := wk2.setl (laid + 1)
  have r2 := wk2.wl
  have r3 := wk3.wl
  have ly1 : lay row 51 [.i .i64 (n + 1)] = row.set 51 (.i .i64 (n + 1)) := lay1 _ (by omega)
  have ly2 : lay (row.set 51 (.i .i64 (n + 1))) 52 [.i .i64 (laid + 1)] = (row.set 51 (.i .i64 (n + 1))).set 52 (.i .i64 (laid + 1)) := lay1 _ (by rw [List.length_set]; omega)
  have w3 := (w1.putr wk2).putr wk3
  unfold alm at ga
  simp (maxSteps := 2000000) (disch := omega) only [stp, ← decide_not, vEqz, eqz, vEqa, eqList, eqAtom, H.at, H.load, vBox, vNewSl, vBld, fill, Mx.part, vClear, vCopy, vBtos, source, lenV, V.isSl, Mx.room, slcut, cutOp, mkOp, bounds, natIn, H.kill, beq_self_eq_true, if_pos, if_neg, List.cons_append, List.nil_append, List.append_nil, List.length_cons, List.length_nil, List.length_set, List.take_succ_cons, List.take_zero, List.drop_succ_cons, List.drop_zero, List.take_nil, List.drop_nil, List.all_cons, List.all_nil, ite_self, if_true, if_false, ite_true, ite_false, reduceIte, reduceDIte, eq_self, ne_eq, gt_iff_lt, ge_iff_le, Option.map_some, Option.map_none, Nat.reduceAdd, Nat.reduceMul, Nat.reduceSub, Nat.reduceLT, Nat.reduceLeDiff, Nat.reduceEqDiff, Nat.reduceSucc, Int.reduceAdd, Int.reduceSub, Int.reduceMul, Int.reduceNeg, Int.reduceLT, Int.reduceLE, Int.reduceEq, Int.reduceNe, Int.reduceToNat, Int.reduceTMod, Int.reduceTDiv, Int.reduceFDiv, Int.reducePow, Nat.reduceMod, Nat.reduceAnd, Nat.reduceDiv, Nat.reducePow, K40_1, K40_2, K40_6, K40, g1, wn, ga, hrl, ly1, ly2, r2, r3, hne]
  refine lay_ok (s := s) (no := laid + 1) w3 hnow ⟨ha.1, by omega⟩ hs (fun h' T' W l hT => ?_)
  simp (maxSteps := 2000000) (disch := omega) only [stp, ← decide_not, vEqz, eqz, vEqa, eqList, eqAtom, H.at, H.load, vBox, vNewSl, vBld, fill, Mx.part, vClear, vCopy, vBtos, source, lenV, V.isSl, Mx.room, slcut, cutOp, mkOp, bounds, natIn, H.kill, beq_self_eq_true, if_pos, if_neg, List.cons_append, List.nil_append, List.append_nil, List.length_cons, List.length_nil, List.length_set, List.take_succ_cons, List.take_zero, List.drop_succ_cons, List.drop_zero, List.take_nil, List.drop_nil, List.all_cons, List.all_nil, ite_self, if_true, if_false, ite_true, ite_false, reduceIte, reduceDIte, eq_self, ne_eq, gt_iff_lt, ge_iff_le, Option.map_some, Option.map_none, Nat.reduceAdd, Nat.reduceMul, Nat.reduceSub, Nat.reduceLT, Nat.reduceLeDiff, Nat.reduceEqDiff, Nat.reduceSucc, Int.reduceAdd, Int.reduceSub, Int.reduceMul, Int.reduceNeg, Int.reduceLT, Int.reduceLE, Int.reduceEq, Int.reduceNe, Int.reduceToNat, Int.reduceTMod, Int.reduceTDiv, Int.reduceFDiv, Int.reducePow, Nat.reduceMod, Nat.reduceAnd, Nat.reduceDiv, Nat.reducePow, ]
  exact q h' T' W (by simp only [H.nx_put] at l; omega) hT
/-- there are so many already -/
theorem put_full {ar : Nat} {ao : O} {h : H} {wr : Nat} {T : Nat → V} {E : Nat → List (List V)} {now laid a s : Int} (w : Wh ar ao h wr T E now 256 laid) (ha : 0 ≤ a ∧ a < 1099511627776) (o : ∀ c, 1 ≤ c → c ≤ 50 → Oth s (E c)) {Q : V → H → Prop} (q : ∀ h', Ext h h' → Q (.b false) h') :
    @wF IP 40 [.p (some (wr, 0)), .agg (alm a s)] h ⟨Q⟩ := by
  have hwl := w.lt
  unfold alm
  simp (maxSteps := 2000000) (disch := omega) only [stp, ← decide_not, vEqz, eqz, vEqa, eqList, eqAtom, H.at, H.load, vBox, vNewSl, vBld, fill, Mx.part, vClear, vCopy, vBtos, source, lenV, V.isSl, Mx.room, slcut, cutOp, mkOp, bounds, natIn, H.kill, beq_self_eq_true, if_pos, if_neg, List.cons_append, List.nil_append, List.append_nil, List.length_cons, List.length_nil, List.length_set, List.take_succ_cons, List.take_zero, List.drop_succ_cons, List.drop_zero, List.take_nil, List.drop_nil, List.all_cons, List.all_nil, ite_self, if_true, if_false, ite_true, ite_false, reduceIte, reduceDIte, eq_self, ne_eq, gt_iff_lt, ge_iff_le, Option.map_some, Option.map_none, Nat.reduceAdd, Nat.reduceMul, Nat.reduceSub, Nat.reduceLT, Nat.reduceLeDiff, Nat.reduceEqDiff, Nat.reduceSucc, Int.reduceAdd, Int.reduceSub, Int.reduceMul, Int.reduceNeg, Int.reduceLT, Int.reduceLE, Int.reduceEq, Int.reduceNe, Int.reduceToNat, Int.reduceTMod, Int.reduceTDiv, Int.reduceFDiv, Int.reducePow, Nat.reduceMod, Nat.reduceAnd, Nat.reduceDiv, Nat.reducePow, f40, K40_1, K40_2, K40_6, K40, f86, K86]
  have e0 : Ext h ((h.new ⟨false, alm a s⟩).put h.nx (some ⟨false, alm a s⟩)) := (ext_new _ _).trans (put_same (by simp))
  refine drop_none (w.ext e0) (by omega) o (fun h1 e1 => ?_)
  have E1 := e0.trans e1
  have w1 := w.ext E1
  obtain ⟨row, g1, wk⟩ := w1.row
  have wn := wk.wn
  simp (maxSteps := 2000000) (disch := omega) only [stp, ← decide_not, vEqz, eqz, vEqa, eqList, eqAtom, H.at, H.load, vBox, vNewSl, vBld, fill, Mx.part, vClear, vCopy, vBtos, source, lenV, V.isSl, Mx.room, slcut, cutOp, mkOp, bounds, natIn, H.kill, beq_self_eq_true, if_pos, if_neg, List.cons_append, List.nil_append, List.append_nil, List.length_cons, List.length_nil, List.length_set, List.take_succ_cons, List.take_zero, List.drop_succ_cons, List.drop_zero, List.take_nil, List.drop_nil, List.all_cons, List.all_nil, ite_self, if_true, if_false, ite_true, ite_false, reduceIte, reduceDIte, eq_self, ne_eq, gt_iff_lt, ge_iff_le, Option.map_some, Option.map_none, Nat.reduceAdd, Nat.reduceMul, Nat.reduceSub, Nat.reduceLT, Nat.reduceLeDiff, Nat.reduceEqDiff, Nat.reduceSucc, Int.reduceAdd, Int.reduceSub, Int.reduceMul, Int.reduceNeg, Int.reduceLT, Int.reduceLE, Int.reduceEq, Int.reduceNe, Int.reduceToNat, Int.reduceTMod, Int.reduceTDiv, Int.reduceFDiv, Int.reducePow, Nat.reduceMod, Nat.reduceAnd, Nat.reduceDiv, Nat.reducePow, K40_1, K40_2, K40_6, K40, g1, wn]
  exact q h1 E1
/-! ### what lies in the wheel of the law -/
structure Ct (i : Nat) (T : Nat → V) (E : Nat → List (List V)) : Prop where
  all : ∀ c, 1 ≤ c → c ≤ 50 → (E c).length ≤ i ∧ ∀ e ∈ E c, ∃ a sl no : Int, e = ent a sl no ∧ 0 ≤ sl ∧ sl < i ∧ (sl = 7 → c = 13)
  lo : i ≤ 7 → E 13 = []
  hi : 7 < i → ∃ a no, E 13 = [ent a 7 no]
  t49 : T 49 = .nsl
  t50 : T 50 = .nsl
theorem Ct.oth {i : Nat} {T : Nat → V} {E : Nat → List (List V)} (k : Ct i T E) {t : Int} (ht : (i : Int) ≤ t) : ∀ c, 1 ≤ c → c ≤ 50 → Oth t (E c) := fun c h1 h2 e he => by
  obtain ⟨a, sl, no, rfl, h3, h4, _⟩ := (k.all c h1 h2).2 e he
  exact ⟨a, sl, no, rfl, by omega⟩
theorem cell13 {i : Nat} (hi : i < 256) : (cell (101 + i) (101 + i - 100) = 13 ↔ i = 7) ∧ cell (101 + i) (101 + i - 100) ≤ 48 := by
  unfold cell
  split
  · omega
  · split
    · omega
    · split <;> omega
theorem Ct.step {i : Nat} {T T' : Nat → V} {E : Nat → List (List V)} (k : Ct i T E) (hi : i < 256) (hT : ∀ j, j ≠ cell (101 + i) (101 + i - 100) → T' j = T j) (no : Int) : Ct (i + 1) T' (upd E (cell (101 + i) (101 + i - 100)) (E (cell (101 + i) (101 + i - 100)) ++ [ent (101 + i) i no])) := by
  obtain ⟨h13, h48⟩ := cell13 hi
  generalize cell (101 + i) (101 + i - 100) = c0 at h13 h48 hT
  refine ⟨fun c h1 h2 => ?_, fun h => ?_, fun h => ?_, (hT 49 (by omega)).trans k.t49, (hT 50 (by omega)).trans k.t50⟩
  · obtain ⟨k1, k2⟩ := k.all c h1 h2
    by_cases hc : c = c0
    · subst hc
      rw [upd_at]
      refine ⟨by rw [List.length_append, List.length_singleton]; omega, fun e he => ?_⟩
      simp only [List.mem_append, List.mem_singleton] at he
      rcases he with he | rfl
      · obtain ⟨a, sl, no, e1, e2, e3, e4⟩ := k2 e he
        exact ⟨a, sl, no, e1, e2, by omega, e4⟩
      · exact ⟨_, _, _, rfl, by omega, by omega, fun h => h13.2 (by omega)⟩
    · rw [upd_ne _ _ hc]
      refine ⟨by omega, fun e he => ?_⟩
      obtain ⟨a, sl, no, e1, e2, e3, e4⟩ := k2 e he
      exact ⟨a, sl, no, e1, e2, by omega, e4⟩
  · rw [upd_ne _ _ (by intro e; have := h13.1 e.symm; omega)]
    exact k.lo (by omega)
  · by_cases h7 : i = 7
    · have hc := h13.2 h7
      subst hc
      rw [upd_at, k.lo (by omega)]
      exact ⟨_, _, by rw [h7]; rfl⟩
    · rw [upd_ne _ _ (by intro e; exact h7 (h13.1 e.symm))]
      exact k.hi (by omega)
/-- the only entry of a place is for the same -/
theorem delete_one {h : H} {id ra : Nat} {a t no b : Int} (hg : h.get id = some ⟨false, ent a t no⟩) (hid : id < h.nx) (ha : h.get ra = some ⟨false, alm b t⟩) (hlt : ra < h.nx) {Q : V → H → Prop}
    (q : ∀ h', h.nx ≤ h'.nx → (∀ j, j < h.nx → j ≠ id → h'.get j = h.get j) → Q (.sl id 0 0 (.ol 1 6)) h') :
    @wF IP 153 [.sl id 0 1 (.op 6), .fn 154 [.p (some (ra, 0))]] h ⟨Q⟩ := by
  have hg' := hg
  unfold ent at hg'
  simp (maxSteps := 2000000) (disch := omega) only [stp, ← decide_not, vEqz, eqz, vEqa, eqList, eqAtom, H.at, H.load, vBox, vNewSl, vBld, fill, Mx.part, vClear, vCopy, vBtos, source, lenV, V.isSl, Mx.room, slcut, cutOp, mkOp, bounds, natIn, H.kill, beq_self_eq_true, if_pos, if_neg, List.cons_append, List.nil_append, List.append_nil, List.length_cons, List.length_nil, List.length_set, List.take_succ_cons, List.take_zero, List.drop_succ_cons, List.drop_zero, List.take_nil, List.drop_nil, List.all_cons, List.all_nil, ite_self, if_true, if_false, ite_true, ite_false, reduceIte, reduceDIte, eq_self, ne_eq, gt_iff_lt, ge_iff_le, Option.map_some, Option.map_none, Nat.reduceAdd, Nat.reduceMul, Nat.reduceSub, Nat.reduceLT, Nat.reduceLeDiff, Nat.reduceEqDiff, Nat.reduceSucc, Int.reduceAdd, Int.reduceSub, Int.reduceMul, Int.reduceNeg, Int.reduceLT, Int.reduceLE, Int.reduceEq, Int.reduceNe, Int.reduceToNat, Int.reduceTMod, Int.reduceTDiv, Int.reduceFDiv, Int.reducePow, Nat.reduceMod, Nat.reduceAnd, Nat.reduceDiv, Nat.reducePow, f153, K153_1, K153_3, K153, f160, K160_1, K160]
  rw [W160_2_eq]
  simp (maxSteps := 2000000) (disch := omega) only [stp, ← decide_not, vEqz, eqz, vEqa, eqList, eqAtom, H.at, H.load, vBox, vNewSl, vBld, fill, Mx.part, vClear, vCopy, vBtos, source, lenV, V.isSl, Mx.room, slcut, cutOp, mkOp, bounds, natIn, H.kill, beq_self_eq_true, if_pos, if_neg, List.cons_append, List.nil_append, List.append_nil, List.length_cons, List.length_nil, List.length_set, List.take_succ_cons, List.take_zero, List.drop_succ_cons, List.drop_zero, List.take_nil, List.drop_nil, List.all_cons, List.all_nil, ite_self, if_true, if_false, ite_true, ite_false, reduceIte, reduceDIte, eq_self, ne_eq, gt_iff_lt, ge_iff_le, Option.map_some, Option.map_none, Nat.reduceAdd, Nat.reduceMul, Nat.reduceSub, Nat.reduceLT, Nat.reduceLeDiff, Nat.reduceEqDiff, Nat.reduceSucc, Int.reduceAdd, Int.reduceSub, Int.reduceMul, Int.reduceNeg, Int.reduceLT, Int.reduceLE, Int.reduceEq, Int.reduceNe, Int.reduceToNat, Int.reduceTMod, Int.reduceTDiv, Int.reduceFDiv, Int.reducePow, Nat.reduceMod, Nat.reduceAnd, Nat.reduceDiv, Nat.reducePow, L160_2, hg']
  refine same (a := a) (s := t) (n := no) (b := b) (t := t) ha hlt (fun h1 e1 => ?_)
  rw [decide_eq_true rfl]
  have g1 := (e1.2 id hid).trans hg
  unfold ent at g1
  have l1 := e1.1
  simp (maxSteps := 2000000) (disch := omega) only [stp, ← decide_not, vEqz, eqz, vEqa, eqList, eqAtom, H.at, H.load, vBox, vNewSl, vBld, fill, Mx.part, vClear, vCopy, vBtos, source, lenV, V.isSl, Mx.room, slcut, cutOp, mkOp, bounds, natIn, H.kill, beq_self_eq_true, if_pos, if_neg, List.cons_append, List.nil_append, List.append_nil, List.length_cons, List.length_nil, List.length_set, List.take_succ_cons, List.take_zero, List.drop_succ_cons, List.drop_zero, List.take_nil, List.drop_nil, List.all_cons, List.all_nil, ite_self, if_true, if_false, ite_true, ite_false, reduceIte, reduceDIte, eq_self, ne_eq, gt_iff_lt, ge_iff_le, Option.map_some, Option.map_none, Nat.reduceAdd, Nat.reduceMul, Nat.reduceSub, Nat.reduceLT, Nat.reduceLeDiff, Nat.reduceEqDiff, Nat.reduceSucc, Int.reduceAdd, Int.reduceSub, Int.reduceMul, Int.reduceNeg, Int.reduceLT, Int.reduceLE, Int.reduceEq, Int.reduceNe, Int.reduceToNat, Int.reduceTMod, Int.reduceTDiv, Int.reduceFDiv, Int.reducePow, Nat.reduceMod, Nat.reduceAnd, Nat.reduceDiv, Nat.reducePow, ]
  rw [W153_2_eq]
  simp (maxSteps := 2000000) (disch := omega) only [stp, ← decide_not, vEqz, eqz, vEqa, eqList, eqAtom, H.at, H.load, vBox, vNewSl, vBld, fill, Mx.part, vClear, vCopy, vBtos, source, lenV, V.isSl, Mx.room, slcut, cutOp, mkOp, bounds, natIn, H.kill, beq_self_eq_true, if_pos, if_neg, List.cons_append, List.nil_append, List.append_nil, List.length_cons, List.length_nil, List.length_set, List.take_succ_cons, List.take_zero, List.drop_succ_cons, List.drop_zero, List.take_nil, List.drop_nil, List.all_cons, List.all_nil, ite_self, if_true, if_false, ite_true, ite_false, reduceIte, reduceDIte, eq_self, ne_eq, gt_iff_lt, ge_iff_le, Option.map_some, Option.map_none, Nat.reduceAdd, Nat.reduceMul, Nat.reduceSub, Nat.reduceLT, Nat.reduceLeDiff, Nat.reduceEqDiff, Nat.reduceSucc, Int.reduceAdd, Int.reduceSub, Int.reduceMul, Int.reduceNeg, Int.reduceLT, Int.reduceLE, Int.reduceEq, Int.reduceNe, Int.reduceToNat, Int.reduceTMod, Int.reduceTDiv, Int.reduceFDiv, Int.reducePow, Nat.reduceMod, Nat.reduceAnd, Nat.reduceDiv, Nat.reducePow, L153_2, K153_1, g1, zr1]
  refine q _ (by simp only [H.nx_put]; omega) (fun j hj hne => ?_)
  rw [H.get_put, if_neg hne]
  exact e1.2 j hj
theorem without_one {h : H} {wr id : Nat} {row : List V} {T : Nat → V} {now laid a t no b : Int} (hw : h.get wr = some ⟨false, row⟩) (hwl : wr < h.nx) (w : Wr row T now 256 laid) (hg : h.get id = some ⟨false, ent a t no⟩) (hid : id < h.nx) (hne : id ≠ wr) {Q : V → H → Prop}
    (q : ∀ h', h.nx ≤ h'.nx → h'.get wr = some ⟨false, row.set 51 (.i .i64 255)⟩ → (∀ j, j < h.nx → j ≠ id → j ≠ wr → h'.get j = h.get j) → Q (.sl id 0 0 (.ol 1 6)) h') :
    @wF IP 131 [.p (some (wr, 0)), .sl id 0 1 (.op 6), .agg (alm b t)] h ⟨Q⟩ := by
  have wn := w.wn
  have hrl := w.len
  have ly : lay row 51 [.i .i64 255] = row.set 51 (.i .i64 255) := lay1 _ (by omega)
  unfold alm
  simp (maxSteps := 2000000) (disch := omega) only [stp, ← decide_not, vEqz, eqz, vEqa, eqList, eqAtom, H.at, H.load, vBox, vNewSl, vBld, fill, Mx.part, vClear, vCopy, vBtos, source, lenV, V.isSl, Mx.room, slcut, cutOp, mkOp, bounds, natIn, H.kill, beq_self_eq_true, if_pos, if_neg, List.cons_append, List.nil_append, List.append_nil, List.length_cons, List.length_nil, List.length_set, List.take_succ_cons, List.take_zero, List.drop_succ_cons, List.drop_zero, List.take_nil, List.drop_nil, List.all_cons, List.all_nil, ite_self, if_true, if_false, ite_true, ite_false, reduceIte, reduceDIte, eq_self, ne_eq, gt_iff_lt, ge_iff_le, Option.map_some, Option.map_none, Nat.reduceAdd, Nat.reduceMul, Nat.reduceSub, Nat.reduceLT, Nat.reduceLeDiff, Nat.reduceEqDiff, Nat.reduceSucc, Int.reduceAdd, Int.reduceSub, Int.reduceMul, Int.reduceNeg, Int.reduceLT, Int.reduceLE, Int.reduceEq, Int.reduceNe, Int.reduceToNat, Int.reduceTMod, Int.reduceTDiv, Int.reduceFDiv, Int.reducePow, Nat.reduceMod, Nat.reduceAnd, Nat.reduceDiv, Nat.reducePow, f131, K131]
  have e0 := ext_new h ⟨false, alm b t⟩
  refine delete_one (h := h.new ⟨false, alm b t⟩) (a := a) (t := t) (no := no) (b := b) ((e0.2 id hid).trans hg) (Nat.lt_of_lt_of_le hid e0.1) (by simp) (by simp) (fun h1 l1 k1 => ?_)
  simp only [H.nx_new] at l1 k1
  have g1 : h1.get wr = some ⟨false, row⟩ := (k1 wr (by omega) (Ne.symm hne)).trans ((e0.2 wr hwl).trans hw)
  simp (maxSteps := 2000000) (disch := omega) only [stp, ← decide_not, vEqz, eqz, vEqa, eqList, eqAtom, H.at, H.load, vBox, vNewSl, vBld, fill, Mx.part, vClear, vCopy, vBtos, source, lenV, V.isSl, Mx.room, slcut, cutOp, mkOp, bounds, natIn, H.kill, beq_self_eq_true, if_pos, if_neg, List.cons_append, List.nil_append, List.append_nil, List.length_cons, List.length_nil, List.length_set, List.take_succ_cons, List.take_zero, List.drop_succ_cons, List.drop_zero, List.take_nil, List.drop_nil, List.all_cons, List.all_nil, ite_self, if_true, if_false, ite_true, ite_false, reduceIte, reduceDIte, eq_self, ne_eq, gt_iff_lt, ge_iff_le, Option.map_some, Option.map_none, Nat.reduceAdd, Nat.reduceMul, Nat.reduceSub, Nat.reduceLT, Nat.reduceLeDiff, Nat.reduceEqDiff, Nat.reduceSucc, Int.reduceAdd, Int.reduceSub, Int.reduceMul, Int.reduceNeg, Int.reduceLT, Int.reduceLE, Int.reduceEq, Int.reduceNe, Int.reduceToNat, Int.reduceTMod, Int.reduceTDiv, Int.reduceFDiv, Int.reducePow, Nat.reduceMod, Nat.reduceAnd, Nat.reduceDiv, Nat.reducePow, g1, wn, hrl, ly]
  refine q _ (by simp only [H.nx_put]; omega) (by rw [H.get_put, if_pos rfl]) (fun j hj h2 h3 => ?_)
  rw [H.get_put, if_neg h3]
  exact (k1 j (by omega) h2).trans (e0.2 j hj)
/-- behind the place that had it -/
def Af (h4 : H) (wr id : Nat) (row : List V) (h : H) : Prop := h4.nx ≤ h.nx ∧ h.get wr = some ⟨false, (row.set 51 (.i .i64 255)).set 13 (.sl id 0 0 (.ol 1 6))⟩ ∧ ∀ j, j < h4.nx → j ≠ wr → j ≠ id → h.get j = h4.get j
theorem Af.ext {h4 h h' : H} {wr id : Nat} {row : List V} (a : Af h4 wr id row h) (hwl : wr < h4.nx) (e : Ext h h') : Af h4 wr id row h' := by
  obtain ⟨a1, a2, a3⟩ := a
  exact ⟨Nat.le_trans a1 e.1, (e.2 wr (by omega)).trans a2, fun j h1 h2 h3 => (e.2 j (by omega)).trans (a3 j h1 h2 h3)⟩
def DdJ (h4 : H) (wr al id L : Nat) (row : List V) (m : Nat) (x0 x3 x4 x26 x29 : V) (h : H) : Prop := ∃ k : Nat, x0 = .p (some (wr, 0)) ∧ x3 = .p (some (al, 0)) ∧ x4 = .i .i64 L ∧ x26 = .i .i64 L ∧ x29 = .i .i64 k ∧ k ≤ 16 ∧ m = 16 - k ∧ (L = 0 ∧ k ≤ 12 ∧ Ext h4 h ∨ ¬ (L = 0 ∧ k ≤ 12) ∧ Af h4 wr id row h)
def DdI (h4 : H) (wr al id : Nat) (row : List V) (m : Nat) (x0 x3 x26 : V) (h : H) : Prop := ∃ L : Nat, x0 = .p (some (wr, 0)) ∧ x3 = .p (some (al, 0)) ∧ x26 = .i .i64 L ∧ L ≤ 3 ∧ m = 3 - L ∧ (L = 0 ∧ Ext h4 h ∨ L ≠ 0 ∧ Af h4 wr id row h)
theorem drop_del {ar : Nat} {ao : O} {h : H} {wr id : Nat} {T : Nat → V} {E : Nat → List (List V)} {now laid b t a13 n13 : Int} {row : List V} (w : Wh ar ao h wr T E now 256 laid) (g0 : h.get wr = some ⟨false, row⟩) (wk : Wr row T now 256 laid) (o : ∀ c, 1 ≤ c → c ≤ 50 → c ≠ 13 → Oth t (E c)) (hT : T 13 = .sl id 0 1 (.op 6)) (hid : h.get id = some ⟨false, ent a13 t n13⟩) (hidl : id < h.nx) {Q : V → H → Prop}
    (q : ∀ h', Af h wr id row h' → Q (.tup []) h') :
    @wF IP 93 [.p (some (wr, 0)), .agg (alm b t)] h ⟨Q⟩ := by
  have hidw : id ≠ wr := w.sep 13 id _ _ (by omega) (by omega) hT
  have hrl := wk.len
  have c50 := wk.wc 50 (by omega) (by omega)
  have c49 := wk.wc 49 (by omega) (by omega)
  have ly50 := lay_same c50
  have ly49 := lay_same c49
  have q50 := (w.sl 50 (by omega) (by omega)).cells
  have q49 := (w.sl 49 (by omega) (by omega)).cells
  have p50 := (w.sl 50 (by omega) (by omega)).one
  have p49 := (w.sl 49 (by omega) (by omega)).one
  have hwl := w.lt
  unfold alm
  simp (maxSteps := 2000000) (disch := omega) only [stp, ← decide_not, vEqz, eqz, vEqa, eqList, eqAtom, H.at, H.load, vBox, vNewSl, vBld, fill, Mx.part, vClear, vCopy, vBtos, source, lenV, V.isSl, Mx.room, slcut, cutOp, mkOp, bounds, natIn, H.kill, beq_self_eq_true, if_pos, if_neg, List.cons_append, List.nil_append, List.append_nil, List.length_cons, List.length_nil, List.length_set, List.take_succ_cons, List.take_zero, List.drop_succ_cons, List.drop_zero, List.take_nil, List.drop_nil, List.all_cons, List.all_nil, ite_self, if_true, if_false, ite_true, ite_false, reduceIte, reduceDIte, eq_self, ne_eq, gt_iff_lt, ge_iff_le, Option.map_some, Option.map_none, Nat.reduceAdd, Nat.reduceMul, Nat.reduceSub, Nat.reduceLT, Nat.reduceLeDiff, Nat.reduceEqDiff, Nat.reduceSucc, Int.reduceAdd, Int.reduceSub, Int.reduceMul, Int.reduceNeg, Int.reduceLT, Int.reduceLE, Int.reduceEq, Int.reduceNe, Int.reduceToNat, Int.reduceTMod, Int.reduceTDiv, Int.reduceFDiv, Int.reducePow, Nat.reduceMod, Nat.reduceAnd, Nat.reduceDiv, Nat.reducePow, f93, K93_2, K93, g0, c50]
  have e0 := ext_new h ⟨false, alm b t⟩
  have ga0 : (h.new ⟨false, alm b t⟩).get h.nx = some ⟨false, alm b t⟩ := by simp
  refine without_none (row := row) (T := T) (c := 50) (b := b) (t := t) ((e0.2 _ hwl).trans g0) (Nat.lt_of_lt_of_le hwl e0.1) wk (by omega) (by omega) ((w.sl 50 (by omega) (by omega)).ext e0) (o 50 (by omega) (by omega) (by omega)) (w.sz 50 (by omega) (by omega)) (fun h1 e1 => ?_)
  have E1 := e0.trans e1
  have g1 := (E1.2 wr hwl).trans g0
  have ga1 := (e1.2 h.nx (by simp)).trans ga0
  have hal : h.nx < h1.nx := by have := e1.1; simp at this; omega
  unfold alm at ga1
  have hne : wr ≠ h.nx := by omega
  simp (maxSteps := 2000000) (disch := omega) only [stp, ← decide_not, vEqz, eqz, vEqa, eqList, eqAtom, H.at, H.load, vBox, vNewSl, vBld, fill, Mx.part, vClear, vCopy, vBtos, source, lenV, V.isSl, Mx.room, slcut, cutOp, mkOp, bounds, natIn, H.kill, beq_self_eq_true, if_pos, if_neg, List.cons_append, List.nil_append, List.append_nil, List.length_cons, List.length_nil, List.length_set, List.take_succ_cons, List.take_zero, List.drop_succ_cons, List.drop_zero, List.take_nil, List.drop_nil, List.all_cons, List.all_nil, ite_self, if_true, if_false, ite_true, ite_false, reduceIte, reduceDIte, eq_self, ne_eq, gt_iff_lt, ge_iff_le, Option.map_some, Option.map_none, Nat.reduceAdd, Nat.reduceMul, Nat.reduceSub, Nat.reduceLT, Nat.reduceLeDiff, Nat.reduceEqDiff, Nat.reduceSucc, Int.reduceAdd, Int.reduceSub, Int.reduceMul, Int.reduceNeg, Int.reduceLT, Int.reduceLE, Int.reduceEq, Int.reduceNe, Int.reduceToNat, Int.reduceTMod, Int.reduceTDiv, Int.reduceFDiv, Int.reducePow, Nat.reduceMod, Nat.reduceAnd, Nat.reduceDiv, Nat.reducePow, g1, ga1, c49, ly50, hrl, hne, q50, p50]
  have e2 := put_same g1
  have E2 := E1.trans e2
  have g2 := (E2.2 wr hwl).trans g0
  have ga2 := (e2.2 h.nx hal).trans ga1
  refine without_none (row := row) (T := T) (c := 49) (b := b) (t := t) g2 (Nat.lt_of_lt_of_le hwl E2.1) wk (by omega) (by omega) ((w.sl 49 (by omega) (by omega)).ext E2) (o 49 (by omega) (by omega) (by omega)) (w.sz 49 (by omega) (by omega)) (fun h3 e3 => ?_)
  have E3 := E2.trans e3
  have g3 := (E3.2 wr hwl).trans g0
  have hal3 : h.nx < h3.nx := by have := e3.1; simp at this; omega
  have ga3 := (e3.2 h.nx (by simpa using hal)).trans ga2
  simp (maxSteps := 2000000) (disch := omega) only [stp, ← decide_not, vEqz, eqz, vEqa, eqList, eqAtom, H.at, H.load, vBox, vNewSl, vBld, fill, Mx.part, vClear, vCopy, vBtos, source, lenV, V.isSl, Mx.room, slcut, cutOp, mkOp, bounds, natIn, H.kill, beq_self_eq_true, if_pos, if_neg, List.cons_append, List.nil_append, List.append_nil, List.length_cons, List.length_nil, List.length_set, List.take_succ_cons, List.take_zero, List.drop_succ_cons, List.drop_zero, List.take_nil, List.drop_nil, List.all_cons, List.all_nil, ite_self, if_true, if_false, ite_true, ite_false, reduceIte, reduceDIte, eq_self, ne_eq, gt_iff_lt, ge_iff_le, Option.map_some, Option.map_none, Nat.reduceAdd, Nat.reduceMul, Nat.reduceSub, Nat.reduceLT, Nat.reduceLeDiff, Nat.reduceEqDiff, Nat.reduceSucc, Int.reduceAdd, Int.reduceSub, Int.reduceMul, Int.reduceNeg, Int.reduceLT, Int.reduceLE, Int.reduceEq, Int.reduceNe, Int.reduceToNat, Int.reduceTMod, Int.reduceTDiv, Int.reduceFDiv, Int.reducePow, Nat.reduceMod, Nat.reduceAnd, Nat.reduceDiv, Nat.reducePow, g3, ly49, hrl, q49, p49]
  have e4 := put_same g3
  have E4 := E3.trans e4
  have ga4 := (e4.2 h.nx hal3).trans ga3
  have hal4 : h.nx < (h3.put wr (some ⟨false, row⟩)).nx := by simpa using hal3
  generalize h3.put wr (some ⟨false, row⟩) = h4 at E4 ga4 hal4
  have w4 := w.ext E4
  have g4 := (E4.2 wr hwl).trans g0
  have hwl4 := w4.lt
  have id4 := (E4.2 id hidl).trans hid
  have idl4 : id < h4.nx := Nat.lt_of_lt_of_le hidl E4.1
  have hida : h.nx ≠ id := by omega
  have wk5 := (wk.setn 255).setc (c := 13) (by omega) (.sl id 0 0 (.ol 1 6))
  have rl5 := wk5.len
  clear e0 e1 e2 e3 e4 E1 E2 E3 ga0 ga1 ga2 ga3 g1 g2 g3 hal hal3
  refine W93_1_inv (DdI h4 wr h.nx id row) ?_ 3 _ _ _ _ ⟨0, rfl, rfl, rfl, by omega, by omega, .inl ⟨rfl, Ext.refl _⟩⟩
  rintro m _ _ _ h5 ⟨L, rfl, rfl, rfl, hL, rfl, e5⟩
  by_cases hL3 : L < 3
  · simp (maxSteps := 2000000) (disch := omega) only [stp, ← decide_not, vEqz, eqz, vEqa, eqList, eqAtom, H.at, H.load, vBox, vNewSl, vBld, fill, Mx.part, vClear, vCopy, vBtos, source, lenV, V.isSl, Mx.room, slcut, cutOp, mkOp, bounds, natIn, H.kill, beq_self_eq_true, if_pos, if_neg, List.cons_append, List.nil_append, List.append_nil, List.length_cons, List.length_nil, List.length_set, List.take_succ_cons, List.take_zero, List.drop_succ_cons, List.drop_zero, List.take_nil, List.drop_nil, List.all_cons, List.all_nil, ite_self, if_true, if_false, ite_true, ite_false, reduceIte, reduceDIte, eq_self, ne_eq, gt_iff_lt, ge_iff_le, Option.map_some, Option.map_none, Nat.reduceAdd, Nat.reduceMul, Nat.reduceSub, Nat.reduceLT, Nat.reduceLeDiff, Nat.reduceEqDiff, Nat.reduceSucc, Int.reduceAdd, Int.reduceSub, Int.reduceMul, Int.reduceNeg, Int.reduceLT, Int.reduceLE, Int.reduceEq, Int.reduceNe, Int.reduceToNat, Int.reduceTMod, Int.reduceTDiv, Int.reduceFDiv, Int.reducePow, Nat.reduceMod, Nat.reduceAnd, Nat.reduceDiv, Nat.reducePow, L93_1]
    refine W93_3_inv (DdJ h4 wr h.nx id L row) ?_ 16 _ _ _ _ _ _ ⟨0, rfl, rfl, rfl, rfl, rfl, by omega, by omega, ?_⟩
    · rintro m _ _ _ _ _ h6 ⟨k, rfl, rfl, rfl, rfl, rfl, hk, rfl, e6⟩
      by_cases hk16 : k < 16
      · have hc : 1 ≤ 1 + L * 16 + k ∧ 1 + L * 16 + k ≤ 50 := by omega
        rcases e6 with ⟨hL0, hk12, e6⟩ | ⟨hn, a6⟩
        · subst hL0
          have g6 := (e6.2 wr hwl4).trans g4
          have ga6 := (e6.2 h.nx hal4).trans ga4
          have cc := wk.wc (1 + 0 * 16 + k) hc.1 hc.2
          have lyc := lay_same cc
          have hal6 := Nat.lt_of_lt_of_le hal4 e6.1
          have hwl6 := Nat.lt_of_lt_of_le hwl4 e6.1
          by_cases hk2 : k = 12
          · subst hk2
            have cc' : row[13]? = some (.sl id 0 1 (.op 6)) := cc.trans (by rw [← hT])
            have ly5 : lay (row.set 51 (.i .i64 255)) 13 [.sl id 0 0 (.ol 1 6)] = (row.set 51 (.i .i64 255)).set 13 (.sl id 0 0 (.ol 1 6)) := lay1 _ (by rw [List.length_set]; omega)
            simp (maxSteps := 2000000) (disch := omega) only [stp, ← decide_not, vEqz, eqz, vEqa, eqList, eqAtom, H.at, H.load, vBox, vNewSl, vBld, fill, Mx.part, vClear, vCopy, vBtos, source, lenV, V.isSl, Mx.room, slcut, cutOp, mkOp, bounds, natIn, H.kill, beq_self_eq_true, if_pos, if_neg, List.cons_append, List.nil_append, List.append_nil, List.length_cons, List.length_nil, List.length_set, List.take_succ_cons, List.take_zero, List.drop_succ_cons, List.drop_zero, List.take_nil, List.drop_nil, List.all_cons, List.all_nil, ite_self, if_true, if_false, ite_true, ite_false, reduceIte, reduceDIte, eq_self, ne_eq, gt_iff_lt, ge_iff_le, Option.map_some, Option.map_none, Nat.reduceAdd, Nat.reduceMul, Nat.reduceSub, Nat.reduceLT, Nat.reduceLeDiff, Nat.reduceEqDiff, Nat.reduceSucc, Int.reduceAdd, Int.reduceSub, Int.reduceMul, Int.reduceNeg, Int.reduceLT, Int.reduceLE, Int.reduceEq, Int.reduceNe, Int.reduceToNat, Int.reduceTMod, Int.reduceTDiv, Int.reduceFDiv, Int.reducePow, Nat.reduceMod, Nat.reduceAnd, Nat.reduceDiv, Nat.reducePow, L93_3, g6, ga6, cc']
            refine without_one (a := a13) (t := t) (no := n13) (b := b) (row := row) g6 hwl6 wk ((e6.2 id idl4).trans id4) (Nat.lt_of_lt_of_le idl4 e6.1) hidw (fun h7 l7 g7 k7 => ?_)
            simp (maxSteps := 2000000) (disch := omega) only [stp, ← decide_not, vEqz, eqz, vEqa, eqList, eqAtom, H.at, H.load, vBox, vNewSl, vBld, fill, Mx.part, vClear, vCopy, vBtos, source, lenV, V.isSl, Mx.room, slcut, cutOp, mkOp, bounds, natIn, H.kill, beq_self_eq_true, if_pos, if_neg, List.cons_append, List.nil_append, List.append_nil, List.length_cons, List.length_nil, List.length_set, List.take_succ_cons, List.take_zero, List.drop_succ_cons, List.drop_zero, List.take_nil, List.drop_nil, List.all_cons, List.all_nil, ite_self, if_true, if_false, ite_true, ite_false, reduceIte, reduceDIte, eq_self, ne_eq, gt_iff_lt, ge_iff_le, Option.map_some, Option.map_none, Nat.reduceAdd, Nat.reduceMul, Nat.reduceSub, Nat.reduceLT, Nat.reduceLeDiff, Nat.reduceEqDiff, Nat.reduceSucc, Int.reduceAdd, Int.reduceSub, Int.reduceMul, Int.reduceNeg, Int.reduceLT, Int.reduceLE, Int.reduceEq, Int.reduceNe, Int.reduceToNat, Int.reduceTMod, Int.reduceTDiv, Int.reduceFDiv, Int.reducePow, Nat.reduceMod, Nat.reduceAnd, Nat.reduceDiv, Nat.reducePow, g7, ly5, hrl]
            refine ⟨3, by omega, 13, rfl, rfl, rfl, rfl, rfl, by omega, by omega, .inr ⟨by omega, ?_, ?_, fun j h1 h2 h3 => ?_⟩⟩
            · simp only [H.nx_put]; have := e6.1; omega
            · rw [H.get_put, if_pos rfl]
            · rw [H.get_put, if_neg h2]
              exact (k7 j (Nat.lt_of_lt_of_le h1 e6.1) h3 h2).trans (e6.2 j h1)
          · simp (maxSteps := 2000000) (disch := omega) only [stp, ← decide_not, vEqz, eqz, vEqa, eqList, eqAtom, H.at, H.load, vBox, vNewSl, vBld, fill, Mx.part, vClear, vCopy, vBtos, source, lenV, V.isSl, Mx.room, slcut, cutOp, mkOp, bounds, natIn, H.kill, beq_self_eq_true, if_pos, if_neg, List.cons_append, List.nil_append, List.append_nil, List.length_cons, List.length_nil, List.length_set, List.take_succ_cons, List.take_zero, List.drop_succ_cons, List.drop_zero, List.take_nil, List.drop_nil, List.all_cons, List.all_nil, ite_self, if_true, if_false, ite_true, ite_false, reduceIte, reduceDIte, eq_self, ne_eq, gt_iff_lt, ge_iff_le, Option.map_some, Option.map_none, Nat.reduceAdd, Nat.reduceMul, Nat.reduceSub, Nat.reduceLT, Nat.reduceLeDiff, Nat.reduceEqDiff, Nat.reduceSucc, Int.reduceAdd, Int.reduceSub, Int.reduceMul, Int.reduceNeg, Int.reduceLT, Int.reduceLE, Int.reduceEq, Int.reduceNe, Int.reduceToNat, Int.reduceTMod, Int.reduceTDiv, Int.reduceFDiv, Int.reducePow, Nat.reduceMod, Nat.reduceAnd, Nat.reduceDiv, Nat.reducePow, L93_3, g6, ga6, cc]
            refine without_none (row := row) (T := T) (c := 1 + 0 * 16 + k) (b := b) (t := t) g6 hwl6 wk (by omega) hc ((w4.sl _ hc.1 hc.2).ext e6) (o _ hc.1 hc.2 (by omega)) (w.sz _ hc.1 hc.2) (fun h7 e7 => ?_)
            have g7 := (e7.2 wr hwl6).trans g6
            have qc := (w4.sl _ hc.1 hc.2).cells
            have pc := (w4.sl _ hc.1 hc.2).one
            simp (maxSteps := 2000000) (disch := omega) only [stp, ← decide_not, vEqz, eqz, vEqa, eqList, eqAtom, H.at, H.load, vBox, vNewSl, vBld, fill, Mx.part, vClear, vCopy, vBtos, source, lenV, V.isSl, Mx.room, slcut, cutOp, mkOp, bounds, natIn, H.kill, beq_self_eq_true, if_pos, if_neg, List.cons_append, List.nil_append, List.append_nil, List.length_cons, List.length_nil, List.length_set, List.take_succ_cons, List.take_zero, List.drop_succ_cons, List.drop_zero, List.take_nil, List.drop_nil, List.all_cons, List.all_nil, ite_self, if_true, if_false, ite_true, ite_false, reduceIte, reduceDIte, eq_self, ne_eq, gt_iff_lt, ge_iff_le, Option.map_some, Option.map_none, Nat.reduceAdd, Nat.reduceMul, Nat.reduceSub, Nat.reduceLT, Nat.reduceLeDiff, Nat.reduceEqDiff, Nat.reduceSucc, Int.reduceAdd, Int.reduceSub, Int.reduceMul, Int.reduceNeg, Int.reduceLT, Int.reduceLE, Int.reduceEq, Int.reduceNe, Int.reduceToNat, Int.reduceTMod, Int.reduceTDiv, Int.reduceFDiv, Int.reducePow, Nat.reduceMod, Nat.reduceAnd, Nat.reduceDiv, Nat.reducePow, g7, lyc, hrl, qc, pc]
            exact ⟨16 - (k + 1), by omega, k + 1, rfl, rfl, rfl, rfl, rfl, by omega, rfl, .inl ⟨rfl, by omega, e6.trans (e7.trans (put_same g7))⟩⟩
        · have a6' := a6
          obtain ⟨b1, b2, b3⟩ := a6
          have hal6 := Nat.lt_of_lt_of_le hal4 b1
          have hwl6 := Nat.lt_of_lt_of_le hwl4 b1
          have ga6 := (b3 h.nx hal4 (Ne.symm hne) hida).trans ga4
          have h13 : 1 + L * 16 + k ≠ 13 := by omega
          have cc := wk5.wc (1 + L * 16 + k) hc.1 hc.2
          have lyc := lay_same cc
          have hTc : upd T 13 (.sl id 0 0 (.ol 1 6)) (1 + L * 16 + k) = T (1 + L * 16 + k) := upd_ne _ _ h13
          have sc : Sle h6 (T (1 + L * 16 + k)) (E (1 + L * 16 + k)) := by
            rcases w4.sl _ hc.1 hc.2 with s1 | ⟨i2, s1, s2, s3⟩
            · exact .inl s1
            · exact .inr ⟨i2, s1, (b3 i2 s3 (w4.sep _ _ _ _ hc.1 hc.2 s1) (by rintro rfl; exact h13 (w4.inj _ 13 _ _ _ _ _ hc.1 hc.2 (by omega) (by omega) s1 hT))).trans s2, by omega⟩
          have qc := sc.cells
          have pc := sc.one
          rw [hTc] at cc lyc
          simp (maxSteps := 2000000) (disch := omega) only [stp, ← decide_not, vEqz, eqz, vEqa, eqList, eqAtom, H.at, H.load, vBox, vNewSl, vBld, fill, Mx.part, vClear, vCopy, vBtos, source, lenV, V.isSl, Mx.room, slcut, cutOp, mkOp, bounds, natIn, H.kill, beq_self_eq_true, if_pos, if_neg, List.cons_append, List.nil_append, List.append_nil, List.length_cons, List.length_nil, List.length_set, List.take_succ_cons, List.take_zero, List.drop_succ_cons, List.drop_zero, List.take_nil, List.drop_nil, List.all_cons, List.all_nil, ite_self, if_true, if_false, ite_true, ite_false, reduceIte, reduceDIte, eq_self, ne_eq, gt_iff_lt, ge_iff_le, Option.map_some, Option.map_none, Nat.reduceAdd, Nat.reduceMul, Nat.reduceSub, Nat.reduceLT, Nat.reduceLeDiff, Nat.reduceEqDiff, Nat.reduceSucc, Int.reduceAdd, Int.reduceSub, Int.reduceMul, Int.reduceNeg, Int.reduceLT, Int.reduceLE, Int.reduceEq, Int.reduceNe, Int.reduceToNat, Int.reduceTMod, Int.reduceTDiv, Int.reduceFDiv, Int.reducePow, Nat.reduceMod, Nat.reduceAnd, Nat.reduceDiv, Nat.reducePow, L93_3, b2, ga6, cc]
          rw [← hTc] at sc ⊢
          refine without_none (row := (row.set 51 (.i .i64 255)).set 13 (.sl id 0 0 (.ol 1 6))) (T := upd T 13 (.sl id 0 0 (.ol 1 6))) (c := 1 + L * 16 + k) (b := b) (t := t) b2 hwl6 wk5 (by omega) hc sc (o _ hc.1 hc.2 h13) (w.sz _ hc.1 hc.2) (fun h7 e7 => ?_)
          have g7 := (e7.2 wr hwl6).trans b2
          rw [hTc]
          simp (maxSteps := 2000000) (disch := omega) only [stp, ← decide_not, vEqz, eqz, vEqa, eqList, eqAtom, H.at, H.load, vBox, vNewSl, vBld, fill, Mx.part, vClear, vCopy, vBtos, source, lenV, V.isSl, Mx.room, slcut, cutOp, mkOp, bounds, natIn, H.kill, beq_self_eq_true, if_pos, if_neg, List.cons_append, List.nil_append, List.append_nil, List.length_cons, List.length_nil, List.length_set, List.take_succ_cons, List.take_zero, List.drop_succ_cons, List.drop_zero, List.take_nil, List.drop_nil, List.all_cons, List.all_nil, ite_self, if_true, if_false, ite_true, ite_false, reduceIte, reduceDIte, eq_self, ne_eq, gt_iff_lt, ge_iff_le, Option.map_some, Option.map_none, Nat.reduceAdd, Nat.reduceMul, Nat.reduceSub, Nat.reduceLT, Nat.reduceLeDiff, Nat.reduceEqDiff, Nat.reduceSucc, Int.reduceAdd, Int.reduceSub, Int.reduceMul, Int.reduceNeg, Int.reduceLT, Int.reduceLE, Int.reduceEq, Int.reduceNe, Int.reduceToNat, Int.reduceTMod, Int.reduceTDiv, Int.reduceFDiv, Int.reducePow, Nat.reduceMod, Nat.reduceAnd, Nat.reduceDiv, Nat.reducePow, g7, lyc, rl5, qc, pc]
          exact ⟨16 - (k + 1), by omega, k + 1, rfl, rfl, rfl, rfl, rfl, by omega, rfl, .inr ⟨by omega, a6'.ext hwl4 (e7.trans (put_same g7))⟩⟩
      · have : k = 16 := by omega
        subst this
        simp (maxSteps := 2000000) (disch := omega) only [stp, ← decide_not, vEqz, eqz, vEqa, eqList, eqAtom, H.at, H.load, vBox, vNewSl, vBld, fill, Mx.part, vClear, vCopy, vBtos, source, lenV, V.isSl, Mx.room, slcut, cutOp, mkOp, bounds, natIn, H.kill, beq_self_eq_true, if_pos, if_neg, List.cons_append, List.nil_append, List.append_nil, List.length_cons, List.length_nil, List.length_set, List.take_succ_cons, List.take_zero, List.drop_succ_cons, List.drop_zero, List.take_nil, List.drop_nil, List.all_cons, List.all_nil, ite_self, if_true, if_false, ite_true, ite_false, reduceIte, reduceDIte, eq_self, ne_eq, gt_iff_lt, ge_iff_le, Option.map_some, Option.map_none, Nat.reduceAdd, Nat.reduceMul, Nat.reduceSub, Nat.reduceLT, Nat.reduceLeDiff, Nat.reduceEqDiff, Nat.reduceSucc, Int.reduceAdd, Int.reduceSub, Int.reduceMul, Int.reduceNeg, Int.reduceLT, Int.reduceLE, Int.reduceEq, Int.reduceNe, Int.reduceToNat, Int.reduceTMod, Int.reduceTDiv, Int.reduceFDiv, Int.reducePow, Nat.reduceMod, Nat.reduceAnd, Nat.reduceDiv, Nat.reducePow, L93_3, K93_2]
        refine ⟨3 - (L + 1), by omega, L + 1, rfl, rfl, rfl, by omega, rfl, .inr ⟨by omega, ?_⟩⟩
        rcases e6 with ⟨_, h1, _⟩ | ⟨_, h1⟩
        · omega
        · exact h1
    · rcases e5 with ⟨h1, h2⟩ | ⟨h1, h2⟩
      · exact .inl ⟨h1, by omega, h2⟩
      · exact .inr ⟨by omega, h2⟩
  · have : L = 3 := by omega
    subst this
    simp (maxSteps := 2000000) (disch := omega) only [stp, ← decide_not, vEqz, eqz, vEqa, eqList, eqAtom, H.at, H.load, vBox, vNewSl, vBld, fill, Mx.part, vClear, vCopy, vBtos, source, lenV, V.isSl, Mx.room, slcut, cutOp, mkOp, bounds, natIn, H.kill, beq_self_eq_true, if_pos, if_neg, List.cons_append, List.nil_append, List.append_nil, List.length_cons, List.length_nil, List.length_set, List.take_succ_cons, List.take_zero, List.drop_succ_cons, List.drop_zero, List.take_nil, List.drop_nil, List.all_cons, List.all_nil, ite_self, if_true, if_false, ite_true, ite_false, reduceIte, reduceDIte, eq_self, ne_eq, gt_iff_lt, ge_iff_le, Option.map_some, Option.map_none, Nat.reduceAdd, Nat.reduceMul, Nat.reduceSub, Nat.reduceLT, Nat.reduceLeDiff, Nat.reduceEqDiff, Nat.reduceSucc, Int.reduceAdd, Int.reduceSub, Int.reduceMul, Int.reduceNeg, Int.reduceLT, Int.reduceLE, Int.reduceEq, Int.reduceNe, Int.reduceToNat, Int.reduceTMod, Int.reduceTDiv, Int.reduceFDiv, Int.reducePow, Nat.reduceMod, Nat.reduceAnd, Nat.reduceDiv, Nat.reducePow, L93_1]
    rcases e5 with ⟨h1, _⟩ | ⟨_, a5⟩
    · omega
    · obtain ⟨b1, b2, b3⟩ := a5
      exact q h5 ⟨Nat.le_trans E4.1 b1, b2, fun j h1 h2 h3 => (b3 j (Nat.lt_of_lt_of_le h1 E4.1) h2 h3).trans (E4.2 j h1)⟩
theorem lay_far {h : H} {wr : Nat} {T : Nat → V} {n laid no : Int} {row : List V} (g0 : h.get wr = some ⟨false, row⟩) (hwl : wr < h.nx) (wk : Wr row T 100 n laid) (t49 : T 49 = .nsl) {Q : V → H → Prop}
    (q : ∀ h' v, h.nx ≤ h'.nx → h'.get wr = some ⟨false, row.set 49 v⟩ → (∀ j, j < h.nx → j ≠ wr → h'.get j = h.get j) → Q (.tup []) h') :
    @wF IP 94 [.p (some (wr, 0)), .agg (ent 5000 7 no)] h ⟨Q⟩ := by
  have hrl := wk.len
  have w0 := wk.w0
  have hne : wr ≠ h.nx := by omega
  have cc := wk.wc 49 (by omega) (by omega)
  rw [t49] at cc
  have E1 := (ext_new h ⟨false, ent 5000 7 no⟩).trans (ext_new _ ⟨false, ent 5000 7 no⟩)
  obtain ⟨h2, k1, k2, k3, k4⟩ := app_e (h := (h.new ⟨false, ent 5000 7 no⟩).new ⟨false, ent 5000 7 no⟩) (T := .nsl) (E := []) (.inl ⟨rfl, rfl⟩) (fun e he => by cases he) (by simp) (rn := h.nx + 1) (ro := false) (c := .ex 1) (r := ent 5000 7 no) (by simp) rfl rfl
  simp only [H.nx_new, List.length_nil, Nat.zero_add] at k1 k2 k3 k4
  have hw2 : h2.get wr = some ⟨false, row⟩ := (k4 wr (by omega) (fun m k e => by cases e)).trans ((E1.2 wr hwl).trans g0)
  have wn2 : ∀ v, lay row 49 [v] = row.set 49 v := fun v => lay1 v (by omega)
  have hlv : lv 4900 = 3 := rfl
  unfold ent at k1 ⊢
  simp (maxSteps := 2000000) (disch := omega) only [stp, ← decide_not, vEqz, eqz, vEqa, eqList, eqAtom, H.at, H.load, vBox, vNewSl, vBld, fill, Mx.part, vClear, vCopy, vBtos, source, lenV, V.isSl, Mx.room, slcut, cutOp, mkOp, bounds, natIn, H.kill, beq_self_eq_true, if_pos, if_neg, List.cons_append, List.nil_append, List.append_nil, List.length_cons, List.length_nil, List.length_set, List.take_succ_cons, List.take_zero, List.drop_succ_cons, List.drop_zero, List.take_nil, List.drop_nil, List.all_cons, List.all_nil, ite_self, if_true, if_false, ite_true, ite_false, reduceIte, reduceDIte, eq_self, ne_eq, gt_iff_lt, ge_iff_le, Option.map_some, Option.map_none, Nat.reduceAdd, Nat.reduceMul, Nat.reduceSub, Nat.reduceLT, Nat.reduceLeDiff, Nat.reduceEqDiff, Nat.reduceSucc, Int.reduceAdd, Int.reduceSub, Int.reduceMul, Int.reduceNeg, Int.reduceLT, Int.reduceLE, Int.reduceEq, Int.reduceNe, Int.reduceToNat, Int.reduceTMod, Int.reduceTDiv, Int.reduceFDiv, Int.reducePow, Nat.reduceMod, Nat.reduceAnd, Nat.reduceDiv, Nat.reducePow, f94, K94, g0, w0, hne]
  refine level ?_
  rw [hlv]
  simp (maxSteps := 2000000) (disch := omega) only [stp, ← decide_not, vEqz, eqz, vEqa, eqList, eqAtom, H.at, H.load, vBox, vNewSl, vBld, fill, Mx.part, vClear, vCopy, vBtos, source, lenV, V.isSl, Mx.room, slcut, cutOp, mkOp, bounds, natIn, H.kill, beq_self_eq_true, if_pos, if_neg, List.cons_append, List.nil_append, List.append_nil, List.length_cons, List.length_nil, List.length_set, List.take_succ_cons, List.take_zero, List.drop_succ_cons, List.drop_zero, List.take_nil, List.drop_nil, List.all_cons, List.all_nil, ite_self, if_true, if_false, ite_true, ite_false, reduceIte, reduceDIte, eq_self, ne_eq, gt_iff_lt, ge_iff_le, Option.map_some, Option.map_none, Nat.reduceAdd, Nat.reduceMul, Nat.reduceSub, Nat.reduceLT, Nat.reduceLeDiff, Nat.reduceEqDiff, Nat.reduceSucc, Int.reduceAdd, Int.reduceSub, Int.reduceMul, Int.reduceNeg, Int.reduceLT, Int.reduceLE, Int.reduceEq, Int.reduceNe, Int.reduceToNat, Int.reduceTMod, Int.reduceTDiv, Int.reduceFDiv, Int.reducePow, Nat.reduceMod, Nat.reduceAnd, Nat.reduceDiv, Nat.reducePow, K94, g0, hne, cc, k1, hw2, wn2, hrl]
  refine q _ _ (by simp only [H.nx_put]; omega) (by rw [H.get_put, if_pos rfl]) (fun j h1 h3 => ?_)
  rw [H.get_put, if_neg h3]
  exact (k4 j (by omega) (fun m k e => by cases e)).trans (E1.2 j h1)
theorem put_again {ar : Nat} {ao : O} {h : H} {wr : Nat} {T : Nat → V} {E : Nat → List (List V)} {laid : Int} (w : Wh ar ao h wr T E 100 256 laid) (hlaid : 0 ≤ laid ∧ laid ≤ 1000) (k : Ct 256 T E) {Q : V → H → Prop}
    (q : ∀ h' row' T' l', h.nx ≤ h'.nx → h'.get wr = some ⟨false, row'⟩ → Wr row' T' 100 256 l' → T' 50 = .nsl → h'.get ar = some ao → Q (.b true) h') :
    @wF IP 40 [.p (some (wr, 0)), .agg (alm 5000 7)] h ⟨Q⟩ := by
  have hwl := w.lt
  obtain ⟨row, g0, wk⟩ := w.row
  obtain ⟨a13, n13, h13⟩ := k.hi (by omega)
  have hT : ∃ id, T 13 = .sl id 0 1 (.op 6) ∧ h.get id = some ⟨false, ent a13 7 n13⟩ ∧ id < h.nx := by
    rcases w.sl 13 (by omega) (by omega) with ⟨_, s2⟩ | ⟨id, s1, s2, s3⟩
    · rw [h13] at s2; cases s2
    · rw [h13] at s1 s2
      exact ⟨id, s1, by simpa using s2, s3⟩
  obtain ⟨id, t13, gid, idl⟩ := hT
  have hidw : id ≠ wr := w.sep 13 id _ _ (by omega) (by omega) t13
  unfold alm
  simp (maxSteps := 2000000) (disch := omega) only [stp, ← decide_not, vEqz, eqz, vEqa, eqList, eqAtom, H.at, H.load, vBox, vNewSl, vBld, fill, Mx.part, vClear, vCopy, vBtos, source, lenV, V.isSl, Mx.room, slcut, cutOp, mkOp, bounds, natIn, H.kill, beq_self_eq_true, if_pos, if_neg, List.cons_append, List.nil_append, List.append_nil, List.length_cons, List.length_nil, List.length_set, List.take_succ_cons, List.take_zero, List.drop_succ_cons, List.drop_zero, List.take_nil, List.drop_nil, List.all_cons, List.all_nil, ite_self, if_true, if_false, ite_true, ite_false, reduceIte, reduceDIte, eq_self, ne_eq, gt_iff_lt, ge_iff_le, Option.map_some, Option.map_none, Nat.reduceAdd, Nat.reduceMul, Nat.reduceSub, Nat.reduceLT, Nat.reduceLeDiff, Nat.reduceEqDiff, Nat.reduceSucc, Int.reduceAdd, Int.reduceSub, Int.reduceMul, Int.reduceNeg, Int.reduceLT, Int.reduceLE, Int.reduceEq, Int.reduceNe, Int.reduceToNat, Int.reduceTMod, Int.reduceTDiv, Int.reduceFDiv, Int.reducePow, Nat.reduceMod, Nat.reduceAnd, Nat.reduceDiv, Nat.reducePow, f40, K40_1, K40_2, K40_6, K40, f86, K86]
  have e0 : Ext h ((h.new ⟨false, alm 5000 7⟩).put h.nx (some ⟨false, alm 5000 7⟩)) := (ext_new _ _).trans (put_same (by simp))
  refine drop_del (t := 7) (w.ext e0) ((e0.2 wr hwl).trans g0) wk (fun c h1 h2 h3 e he => ?_) t13 ((e0.2 id idl).trans gid) (Nat.lt_of_lt_of_le idl e0.1) (fun h1 af => ?_)
  · obtain ⟨a, sl, no, rfl, _, _, h7⟩ := (k.all c h1 h2).2 e he
    exact ⟨a, sl, no, rfl, fun e => h3 (h7 e)⟩
  obtain ⟨b1, b2, b3⟩ := af
  simp only [H.nx_put, H.nx_new] at b1 b3
  have ga : h1.get h.nx = some ⟨false, alm 5000 7⟩ := (b3 h.nx (by omega) (by omega) (by omega)).trans (by simp)
  have wk1 := (wk.setn 255).setc (c := 13) (by omega) (.sl id 0 0 (.ol 1 6))
  have wk2 := wk1.setn 256
  have wk3 := wk2.setl (laid + 1)
  generalize (row.set 51 (.i .i64 255)).set 13 (.sl id 0 0 (.ol 1 6)) = row1 at b2 wk1 wk2 wk3
  have hrl := wk1.len
  have wn := wk1.wn
  have r2 := wk2.wl
  have r3 := wk3.wl
  have hne : wr ≠ h.nx := by omega
  have ly1 : lay row1 51 [.i .i64 256] = row1.set 51 (.i .i64 256) := lay1 _ (by omega)
  have ly2 : lay (row1.set 51 (.i .i64 256)) 52 [.i .i64 (laid + 1)] = (row1.set 51 (.i .i64 256)).set 52 (.i .i64 (laid + 1)) := lay1 _ (by rw [List.length_set]; omega)
  unfold alm at ga
  simp (maxSteps := 2000000) (disch := omega) only [stp, ← decide_not, vEqz, eqz, vEqa, eqList, eqAtom, H.at, H.load, vBox, vNewSl, vBld, fill, Mx.part, vClear, vCopy, vBtos, source, lenV, V.isSl, Mx.room, slcut, cutOp, mkOp, bounds, natIn, H.kill, beq_self_eq_true, if_pos, if_neg, List.cons_append, List.nil_append, List.append_nil, List.length_cons, List.length_nil, List.length_set, List.take_succ_cons, List.take_zero, List.drop_succ_cons, List.drop_zero, List.take_nil, List.drop_nil, List.all_cons, List.all_nil, ite_self, if_true, if_false, ite_true, ite_false, reduceIte, reduceDIte, eq_self, ne_eq, gt_iff_lt, ge_iff_le, Option.map_some, Option.map_none, Nat.reduceAdd, Nat.reduceMul, Nat.reduceSub, Nat.reduceLT, Nat.reduceLeDiff, Nat.reduceEqDiff, Nat.reduceSucc, Int.reduceAdd, Int.reduceSub, Int.reduceMul, Int.reduceNeg, Int.reduceLT, Int.reduceLE, Int.reduceEq, Int.reduceNe, Int.reduceToNat, Int.reduceTMod, Int.reduceTDiv, Int.reduceFDiv, Int.reducePow, Nat.reduceMod, Nat.reduceAnd, Nat.reduceDiv, Nat.reducePow, K40_1, K40_2, K40_6, K40, b2, wn, ga, hrl, ly1, ly2, r2, r3, hne]
  refine lay_far (no := laid + 1) (T := upd T 13 (.sl id 0 0 (.ol 1 6))) (n := 256) (laid := laid + 1) (by rw [H.get_put, if_pos rfl]) (by simp only [H.nx_put]; omega) wk3 ((upd_ne _ _ (by omega)).trans k.t49) (fun h' v l g kp => ?_)
  simp (maxSteps := 2000000) (disch := omega) only [stp, ← decide_not, vEqz, eqz, vEqa, eqList, eqAtom, H.at, H.load, vBox, vNewSl, vBld, fill, Mx.part, vClear, vCopy, vBtos, source, lenV, V.isSl, Mx.room, slcut, cutOp, mkOp, bounds, natIn, H.kill, beq_self_eq_true, if_pos, if_neg, List.cons_append, List.nil_append, List.append_nil, List.length_cons, List.length_nil, List.length_set, List.take_succ_cons, List.take_zero, List.drop_succ_cons, List.drop_zero, List.take_nil, List.drop_nil, List.all_cons, List.all_nil, ite_self, if_true, if_false, ite_true, ite_false, reduceIte, reduceDIte, eq_self, ne_eq, gt_iff_lt, ge_iff_le, Option.map_some, Option.map_none, Nat.reduceAdd, Nat.reduceMul, Nat.reduceSub, Nat.reduceLT, Nat.reduceLeDiff, Nat.reduceEqDiff, Nat.reduceSucc, Int.reduceAdd, Int.reduceSub, Int.reduceMul, Int.reduceNeg, Int.reduceLT, Int.reduceLE, Int.reduceEq, Int.reduceNe, Int.reduceToNat, Int.reduceTMod, Int.reduceTDiv, Int.reduceFDiv, Int.reducePow, Nat.reduceMod, Nat.reduceAnd, Nat.reduceDiv, Nat.reducePow, ]
  refine q h' _ _ _ (by simp only [H.nx_put] at l; omega) g (wk3.setc (c := 49) (by omega) v) ?_ ?_
  · rw [upd_ne _ _ (by omega), upd_ne _ _ (by omega)]
    exact k.t50
  · have har := w.kp
    have h1r : ar ≠ id := by rintro rfl; exact har.2.2.2 13 _ _ (by omega) (by omega) t13
    rw [kp ar (by simp only [H.nx_put]; omega) har.2.2.1, H.get_put, if_neg har.2.2.1, H.get_put, if_neg har.2.2.1, b3 ar (by omega) har.2.2.1 h1r, e0.2 ar har.2.1]
    exact har.1
theorem awake (h : H) (Q : V → H → Prop) (q : ∀ h', (∀ id, id < h.nx → h'.get id = h.get id) → h.nx ≤ h'.nx → Q (.b true) h') : @wF IP 45 [] h ⟨Q⟩ :=
  Fnc_any bare 60 rfl rfl (by kernel_rfl) h q
theorem adv {h : H} {wr : Nat} {row : List V} {b : Int} (g : h.get wr = some ⟨false, row⟩) (w0 : row[0]? = some (.i .i64 100)) {Q : V → H → Prop} (q : Q (.tup []) h) : @wF IP 35 [.p (some (wr, 0)), .i .i64 (min b 100)] h ⟨Q⟩ := by
  rcases (by omega : b ≤ 0 ∨ 0 < b ∧ b ≤ 100 ∨ 100 < b) with h1 | h1 | h1
  · rw [Int.min_eq_left (by omega)]
    simp (maxSteps := 2000000) (disch := omega) only [stp, ← decide_not, vEqz, eqz, vEqa, eqList, eqAtom, H.at, H.load, vBox, vNewSl, vBld, fill, Mx.part, vClear, vCopy, vBtos, source, lenV, V.isSl, Mx.room, slcut, cutOp, mkOp, bounds, natIn, H.kill, beq_self_eq_true, if_pos, if_neg, List.cons_append, List.nil_append, List.append_nil, List.length_cons, List.length_nil, List.length_set, List.take_succ_cons, List.take_zero, List.drop_succ_cons, List.drop_zero, List.take_nil, List.drop_nil, List.all_cons, List.all_nil, ite_self, if_true, if_false, ite_true, ite_false, reduceIte, reduceDIte, eq_self, ne_eq, gt_iff_lt, ge_iff_le, Option.map_some, Option.map_none, Nat.reduceAdd, Nat.reduceMul, Nat.reduceSub, Nat.reduceLT, Nat.reduceLeDiff, Nat.reduceEqDiff, Nat.reduceSucc, Int.reduceAdd, Int.reduceSub, Int.reduceMul, Int.reduceNeg, Int.reduceLT, Int.reduceLE, Int.reduceEq, Int.reduceNe, Int.reduceToNat, Int.reduceTMod, Int.reduceTDiv, Int.reduceFDiv, Int.reducePow, Nat.reduceMod, Nat.reduceAnd, Nat.reduceDiv, Nat.reducePow, f35, K35_2, K35_1, K35_4, K35_8, K35, f86, K86, K35_2, K35_1, K35_4, K35_8, K35, g, w0]
    exact q
  · rw [Int.min_eq_left (by omega)]
    simp (maxSteps := 2000000) (disch := omega) only [stp, ← decide_not, vEqz, eqz, vEqa, eqList, eqAtom, H.at, H.load, vBox, vNewSl, vBld, fill, Mx.part, vClear, vCopy, vBtos, source, lenV, V.isSl, Mx.room, slcut, cutOp, mkOp, bounds, natIn, H.kill, beq_self_eq_true, if_pos, if_neg, List.cons_append, List.nil_append, List.append_nil, List.length_cons, List.length_nil, List.length_set, List.take_succ_cons, List.take_zero, List.drop_succ_cons, List.drop_zero, List.take_nil, List.drop_nil, List.all_cons, List.all_nil, ite_self, if_true, if_false, ite_true, ite_false, reduceIte, reduceDIte, eq_self, ne_eq, gt_iff_lt, ge_iff_le, Option.map_some, Option.map_none, Nat.reduceAdd, Nat.reduceMul, Nat.reduceSub, Nat.reduceLT, Nat.reduceLeDiff, Nat.reduceEqDiff, Nat.reduceSucc, Int.reduceAdd, Int.reduceSub, Int.reduceMul, Int.reduceNeg, Int.reduceLT, Int.reduceLE, Int.reduceEq, Int.reduceNe, Int.reduceToNat, Int.reduceTMod, Int.reduceTDiv, Int.reduceFDiv, Int.reducePow, Nat.reduceMod, Nat.reduceAnd, Nat.reduceDiv, Nat.reducePow, f35, K35_2, K35_1, K35_4, K35_8, K35, f86, K86, K35_2, K35_1, K35_4, K35_8, K35, g, w0]
    exact q
  · rw [Int.min_eq_right (by omega)]
    simp (maxSteps := 2000000) (disch := omega) only [stp, ← decide_not, vEqz, eqz, vEqa, eqList, eqAtom, H.at, H.load, vBox, vNewSl, vBld, fill, Mx.part, vClear, vCopy, vBtos, source, lenV, V.isSl, Mx.room, slcut, cutOp, mkOp, bounds, natIn, H.kill, beq_self_eq_true, if_pos, if_neg, List.cons_append, List.nil_append, List.append_nil, List.length_cons, List.length_nil, List.length_set, List.take_succ_cons, List.take_zero, List.drop_succ_cons, List.drop_zero, List.take_nil, List.drop_nil, List.all_cons, List.all_nil, ite_self, if_true, if_false, ite_true, ite_false, reduceIte, reduceDIte, eq_self, ne_eq, gt_iff_lt, ge_iff_le, Option.map_some, Option.map_none, Nat.reduceAdd, Nat.reduceMul, Nat.reduceSub, Nat.reduceLT, Nat.reduceLeDiff, Nat.reduceEqDiff, Nat.reduceSucc, Int.reduceAdd, Int.reduceSub, Int.reduceMul, Int.reduceNeg, Int.reduceLT, Int.reduceLE, Int.reduceEq, Int.reduceNe, Int.reduceToNat, Int.reduceTMod, Int.reduceTDiv, Int.reduceFDiv, Int.reducePow, Nat.reduceMod, Nat.reduceAnd, Nat.reduceDiv, Nat.reducePow, f35, K35_2, K35_1, K35_4, K35_8, K35, f86, K86, K35_2, K35_1, K35_4, K35_8, K35, g, w0]
    exact q
theorem adv0 {h : H} {b : Int} {Q : V → H → Prop} (q : Q (.tup []) h) : @wF IP 35 [.p none, .i .i64 b] h ⟨Q⟩ := by
  simp (maxSteps := 2000000) (disch := omega) only [stp, ← decide_not, vEqz, eqz, vEqa, eqList, eqAtom, H.at, H.load, vBox, vNewSl, vBld, fill, Mx.part, vClear, vCopy, vBtos, source, lenV, V.isSl, Mx.room, slcut, cutOp, mkOp, bounds, natIn, H.kill, beq_self_eq_true, if_pos, if_neg, List.cons_append, List.nil_append, List.append_nil, List.length_cons, List.length_nil, List.length_set, List.take_succ_cons, List.take_zero, List.drop_succ_cons, List.drop_zero, List.take_nil, List.drop_nil, List.all_cons, List.all_nil, ite_self, if_true, if_false, ite_true, ite_false, reduceIte, reduceDIte, eq_self, ne_eq, gt_iff_lt, ge_iff_le, Option.map_some, Option.map_none, Nat.reduceAdd, Nat.reduceMul, Nat.reduceSub, Nat.reduceLT, Nat.reduceLeDiff, Nat.reduceEqDiff, Nat.reduceSucc, Int.reduceAdd, Int.reduceSub, Int.reduceMul, Int.reduceNeg, Int.reduceLT, Int.reduceLE, Int.reduceEq, Int.reduceNe, Int.reduceToNat, Int.reduceTMod, Int.reduceTDiv, Int.reduceFDiv, Int.reducePow, Nat.reduceMod, Nat.reduceAnd, Nat.reduceDiv, Nat.reducePow, f35, K35_2, K35_1, K35_4, K35_8, K35, f86, K86, K35_2, K35_1, K35_4, K35_8, K35]
  exact q
theorem put0 {h : H} {a0 a1 a2 a3 a4 : Int} {Q : V → H → Prop} (q : ∀ h', Ext h h' → Q (.b false) h') : @wF IP 40 [.p none, .agg [.i .i64 a0, .i .i64 a1, .i .i64 a2, .i .i64 a3, .i .i64 a4]] h ⟨Q⟩ := by
  simp (maxSteps := 2000000) (disch := omega) only [stp, ← decide_not, vEqz, eqz, vEqa, eqList, eqAtom, H.at, H.load, vBox, vNewSl, vBld, fill, Mx.part, vClear, vCopy, vBtos, source, lenV, V.isSl, Mx.room, slcut, cutOp, mkOp, bounds, natIn, H.kill, beq_self_eq_true, if_pos, if_neg, List.cons_append, List.nil_append, List.append_nil, List.length_cons, List.length_nil, List.length_set, List.take_succ_cons, List.take_zero, List.drop_succ_cons, List.drop_zero, List.take_nil, List.drop_nil, List.all_cons, List.all_nil, ite_self, if_true, if_false, ite_true, ite_false, reduceIte, reduceDIte, eq_self, ne_eq, gt_iff_lt, ge_iff_le, Option.map_some, Option.map_none, Nat.reduceAdd, Nat.reduceMul, Nat.reduceSub, Nat.reduceLT, Nat.reduceLeDiff, Nat.reduceEqDiff, Nat.reduceSucc, Int.reduceAdd, Int.reduceSub, Int.reduceMul, Int.reduceNeg, Int.reduceLT, Int.reduceLE, Int.reduceEq, Int.reduceNe, Int.reduceToNat, Int.reduceTMod, Int.reduceTDiv, Int.reduceFDiv, Int.reducePow, Nat.reduceMod, Nat.reduceAnd, Nat.reduceDiv, Nat.reducePow, f40, K40_1, K40_2, K40_6, K40, f86, K86, K40_1, K40_2, K40_6, K40]
  refine q _ ⟨by simp (maxSteps := 2000000) (disch := omega) only [stp, ← decide_not, vEqz, eqz, vEqa, eqList, eqAtom, H.at, H.load, vBox, vNewSl, vBld, fill, Mx.part, vClear, vCopy, vBtos, source, lenV, V.isSl, Mx.room, slcut, cutOp, mkOp, bounds, natIn, H.kill, beq_self_eq_true, if_pos, if_neg, List.cons_append, List.nil_append, List.append_nil, List.length_cons, List.length_nil, List.length_set, List.take_succ_cons, List.take_zero, List.drop_succ_cons, List.drop_zero, List.take_nil, List.drop_nil, List.all_cons, List.all_nil, ite_self, if_true, if_false, ite_true, ite_false, reduceIte, reduceDIte, eq_self, ne_eq, gt_iff_lt, ge_iff_le, Option.map_some, Option.map_none, Nat.reduceAdd, Nat.reduceMul, Nat.reduceSub, Nat.reduceLT, Nat.reduceLeDiff, Nat.reduceEqDiff, Nat.reduceSucc, Int.reduceAdd, Int.reduceSub, Int.reduceMul, Int.reduceNeg, Int.reduceLT, Int.reduceLE, Int.reduceEq, Int.reduceNe, Int.reduceToNat, Int.reduceTMod, Int.reduceTDiv, Int.reduceFDiv, Int.reducePow, Nat.reduceMod, Nat.reduceAnd, Nat.reduceDiv, Nat.reducePow, ]; omega, fun id hid => by simp (maxSteps := 2000000) (disch := omega) only [stp, ← decide_not, vEqz, eqz, vEqa, eqList, eqAtom, H.at, H.load, vBox, vNewSl, vBld, fill, Mx.part, vClear, vCopy, vBtos, source, lenV, V.isSl, Mx.room, slcut, cutOp, mkOp, bounds, natIn, H.kill, beq_self_eq_true, if_pos, if_neg, List.cons_append, List.nil_append, List.append_nil, List.length_cons, List.length_nil, List.length_set, List.take_succ_cons, List.take_zero, List.drop_succ_cons, List.drop_zero, List.take_nil, List.drop_nil, List.all_cons, List.all_nil, ite_self, if_true, if_false, ite_true, ite_false, reduceIte, reduceDIte, eq_self, ne_eq, gt_iff_lt, ge_iff_le, Option.map_some, Option.map_none, Nat.reduceAdd, Nat.reduceMul, Nat.reduceSub, Nat.reduceLT, Nat.reduceLeDiff, Nat.reduceEqDiff, Nat.reduceSucc, Int.reduceAdd, Int.reduceSub, Int.reduceMul, Int.reduceNeg, Int.reduceLT, Int.reduceLE, Int.reduceEq, Int.reduceNe, Int.reduceToNat, Int.reduceTMod, Int.reduceTDiv, Int.reduceFDiv, Int.reducePow, Nat.reduceMod, Nat.reduceAnd, Nat.reduceDiv, Nat.reducePow, ]⟩
theorem putn {h : H} {wr : Nat} {Q : V → H → Prop} (q : ∀ h', Ext h h' → Q (.b false) h') : @wF IP 40 [.p (some (wr, 0)), .agg [.i .i64 1099511627776, .i .i64 0, .i .i64 0, .i .i64 0, .i .i64 0]] h ⟨Q⟩ := by
  simp (maxSteps := 2000000) (disch := omega) only [stp, ← decide_not, vEqz, eqz, vEqa, eqList, eqAtom, H.at, H.load, vBox, vNewSl, vBld, fill, Mx.part, vClear, vCopy, vBtos, source, lenV, V.isSl, Mx.room, slcut, cutOp, mkOp, bounds, natIn, H.kill, beq_self_eq_true, if_pos, if_neg, List.cons_append, List.nil_append, List.append_nil, List.length_cons, List.length_nil, List.length_set, List.take_succ_cons, List.take_zero, List.drop_succ_cons, List.drop_zero, List.take_nil, List.drop_nil, List.all_cons, List.all_nil, ite_self, if_true, if_false, ite_true, ite_false, reduceIte, reduceDIte, eq_self, ne_eq, gt_iff_lt, ge_iff_le, Option.map_some, Option.map_none, Nat.reduceAdd, Nat.reduceMul, Nat.reduceSub, Nat.reduceLT, Nat.reduceLeDiff, Nat.reduceEqDiff, Nat.reduceSucc, Int.reduceAdd, Int.reduceSub, Int.reduceMul, Int.reduceNeg, Int.reduceLT, Int.reduceLE, Int.reduceEq, Int.reduceNe, Int.reduceToNat, Int.reduceTMod, Int.reduceTDiv, Int.reduceFDiv, Int.reducePow, Nat.reduceMod, Nat.reduceAnd, Nat.reduceDiv, Nat.reducePow, f40, K40_1, K40_2, K40_6, K40, f86, K86, K40_1, K40_2, K40_6, K40]
  refine q _ ⟨by simp (maxSteps := 2000000) (disch := omega) only [stp, ← decide_not, vEqz, eqz, vEqa, eqList, eqAtom, H.at, H.load, vBox, vNewSl, vBld, fill, Mx.part, vClear, vCopy, vBtos, source, lenV, V.isSl, Mx.room, slcut, cutOp, mkOp, bounds, natIn, H.kill, beq_self_eq_true, if_pos, if_neg, List.cons_append, List.nil_append, List.append_nil, List.length_cons, List.length_nil, List.length_set, List.take_succ_cons, List.take_zero, List.drop_succ_cons, List.drop_zero, List.take_nil, List.drop_nil, List.all_cons, List.all_nil, ite_self, if_true, if_false, ite_true, ite_false, reduceIte, reduceDIte, eq_self, ne_eq, gt_iff_lt, ge_iff_le, Option.map_some, Option.map_none, Nat.reduceAdd, Nat.reduceMul, Nat.reduceSub, Nat.reduceLT, Nat.reduceLeDiff, Nat.reduceEqDiff, Nat.reduceSucc, Int.reduceAdd, Int.reduceSub, Int.reduceMul, Int.reduceNeg, Int.reduceLT, Int.reduceLE, Int.reduceEq, Int.reduceNe, Int.reduceToNat, Int.reduceTMod, Int.reduceTDiv, Int.reduceFDiv, Int.reducePow, Nat.reduceMod, Nat.reduceAnd, Nat.reduceDiv, Nat.reducePow, ]; omega, fun id hid => by simp (maxSteps := 2000000) (disch := omega) only [stp, ← decide_not, vEqz, eqz, vEqa, eqList, eqAtom, H.at, H.load, vBox, vNewSl, vBld, fill, Mx.part, vClear, vCopy, vBtos, source, lenV, V.isSl, Mx.room, slcut, cutOp, mkOp, bounds, natIn, H.kill, beq_self_eq_true, if_pos, if_neg, List.cons_append, List.nil_append, List.append_nil, List.length_cons, List.length_nil, List.length_set, List.take_succ_cons, List.take_zero, List.drop_succ_cons, List.drop_zero, List.take_nil, List.drop_nil, List.all_cons, List.all_nil, ite_self, if_true, if_false, ite_true, ite_false, reduceIte, reduceDIte, eq_self, ne_eq, gt_iff_lt, ge_iff_le, Option.map_some, Option.map_none, Nat.reduceAdd, Nat.reduceMul, Nat.reduceSub, Nat.reduceLT, Nat.reduceLeDiff, Nat.reduceEqDiff, Nat.reduceSucc, Int.reduceAdd, Int.reduceSub, Int.reduceMul, Int.reduceNeg, Int.reduceLT, Int.reduceLE, Int.reduceEq, Int.reduceNe, Int.reduceToNat, Int.reduceTMod, Int.reduceTDiv, Int.reduceFDiv, Int.reducePow, Nat.reduceMod, Nat.reduceAnd, Nat.reduceDiv, Nat.reducePow, ]⟩
theorem fin9 {ar wr : Nat} {back a0 a1 a2 a3 a4 : Int} {h : H} {T : Nat → V} {E : Nat → List (List V)} (w : Wh ar ⟨false, [.i .i64 a0, .i .i64 a1, .i .i64 a2, .i .i64 a3, .i .i64 a4]⟩ h wr T E 100 256 256) (k : Ct 256 T E) :
    @K9_1 (.i .i64 back) (.p (some (ar, 0))) (.p (some (wr, 0))) h ⟨fun v _ => v = .b true⟩ := by
  have hwl := w.lt
  have har := w.kp.2.1
  simp (maxSteps := 2000000) (disch := omega) only [stp, ← decide_not, vEqz, eqz, vEqa, eqList, eqAtom, H.at, H.load, vBox, vNewSl, vBld, fill, Mx.part, vClear, vCopy, vBtos, source, lenV, V.isSl, Mx.room, slcut, cutOp, mkOp, bounds, natIn, H.kill, beq_self_eq_true, if_pos, if_neg, List.cons_append, List.nil_append, List.append_nil, List.length_cons, List.length_nil, List.length_set, List.take_succ_cons, List.take_zero, List.drop_succ_cons, List.drop_zero, List.take_nil, List.drop_nil, List.all_cons, List.all_nil, ite_self, if_true, if_false, ite_true, ite_false, reduceIte, reduceDIte, eq_self, ne_eq, gt_iff_lt, ge_iff_le, Option.map_some, Option.map_none, Nat.reduceAdd, Nat.reduceMul, Nat.reduceSub, Nat.reduceLT, Nat.reduceLeDiff, Nat.reduceEqDiff, Nat.reduceSucc, Int.reduceAdd, Int.reduceSub, Int.reduceMul, Int.reduceNeg, Int.reduceLT, Int.reduceLE, Int.reduceEq, Int.reduceNe, Int.reduceToNat, Int.reduceTMod, Int.reduceTDiv, Int.reduceFDiv, Int.reducePow, Nat.reduceMod, Nat.reduceAnd, Nat.reduceDiv, Nat.reducePow, K9_1]
  refine put_again w (by omega) k (fun h1 row1 T1 l1 n1 g1 wk1 t50 ga => ?_)
  have w0 := wk1.w0
  have wn := wk1.wn
  have c50 := wk1.wc 50 (by omega) (by omega)
  rw [t50] at c50
  try simp (maxSteps := 2000000) (disch := omega) only [stp, ← decide_not, vEqz, eqz, vEqa, eqList, eqAtom, H.at, H.load, vBox, vNewSl, vBld, fill, Mx.part, vClear, vCopy, vBtos, source, lenV, V.isSl, Mx.room, slcut, cutOp, mkOp, bounds, natIn, H.kill, beq_self_eq_true, if_pos, if_neg, List.cons_append, List.nil_append, List.append_nil, List.length_cons, List.length_nil, List.length_set, List.take_succ_cons, List.take_zero, List.drop_succ_cons, List.drop_zero, List.take_nil, List.drop_nil, List.all_cons, List.all_nil, ite_self, if_true, if_false, ite_true, ite_false, reduceIte, reduceDIte, eq_self, ne_eq, gt_iff_lt, ge_iff_le, Option.map_some, Option.map_none, Nat.reduceAdd, Nat.reduceMul, Nat.reduceSub, Nat.reduceLT, Nat.reduceLeDiff, Nat.reduceEqDiff, Nat.reduceSucc, Int.reduceAdd, Int.reduceSub, Int.reduceMul, Int.reduceNeg, Int.reduceLT, Int.reduceLE, Int.reduceEq, Int.reduceNe, Int.reduceToNat, Int.reduceTMod, Int.reduceTDiv, Int.reduceFDiv, Int.reducePow, Nat.reduceMod, Nat.reduceAnd, Nat.reduceDiv, Nat.reducePow, ]
  refine adv g1 w0 ?_
  try simp (maxSteps := 2000000) (disch := omega) only [stp, ← decide_not, vEqz, eqz, vEqa, eqList, eqAtom, H.at, H.load, vBox, vNewSl, vBld, fill, Mx.part, vClear, vCopy, vBtos, source, lenV, V.isSl, Mx.room, slcut, cutOp, mkOp, bounds, natIn, H.kill, beq_self_eq_true, if_pos, if_neg, List.cons_append, List.nil_append, List.append_nil, List.length_cons, List.length_nil, List.length_set, List.take_succ_cons, List.take_zero, List.drop_succ_cons, List.drop_zero, List.take_nil, List.drop_nil, List.all_cons, List.all_nil, ite_self, if_true, if_false, ite_true, ite_false, reduceIte, reduceDIte, eq_self, ne_eq, gt_iff_lt, ge_iff_le, Option.map_some, Option.map_none, Nat.reduceAdd, Nat.reduceMul, Nat.reduceSub, Nat.reduceLT, Nat.reduceLeDiff, Nat.reduceEqDiff, Nat.reduceSucc, Int.reduceAdd, Int.reduceSub, Int.reduceMul, Int.reduceNeg, Int.reduceLT, Int.reduceLE, Int.reduceEq, Int.reduceNe, Int.reduceToNat, Int.reduceTMod, Int.reduceTDiv, Int.reduceFDiv, Int.reducePow, Nat.reduceMod, Nat.reduceAnd, Nat.reduceDiv, Nat.reducePow, ]
  refine adv0 ?_
  try simp (maxSteps := 2000000) (disch := omega) only [stp, ← decide_not, vEqz, eqz, vEqa, eqList, eqAtom, H.at, H.load, vBox, vNewSl, vBld, fill, Mx.part, vClear, vCopy, vBtos, source, lenV, V.isSl, Mx.room, slcut, cutOp, mkOp, bounds, natIn, H.kill, beq_self_eq_true, if_pos, if_neg, List.cons_append, List.nil_append, List.append_nil, List.length_cons, List.length_nil, List.length_set, List.take_succ_cons, List.take_zero, List.drop_succ_cons, List.drop_zero, List.take_nil, List.drop_nil, List.all_cons, List.all_nil, ite_self, if_true, if_false, ite_true, ite_false, reduceIte, reduceDIte, eq_self, ne_eq, gt_iff_lt, ge_iff_le, Option.map_some, Option.map_none, Nat.reduceAdd, Nat.reduceMul, Nat.reduceSub, Nat.reduceLT, Nat.reduceLeDiff, Nat.reduceEqDiff, Nat.reduceSucc, Int.reduceAdd, Int.reduceSub, Int.reduceMul, Int.reduceNeg, Int.reduceLT, Int.reduceLE, Int.reduceEq, Int.reduceNe, Int.reduceToNat, Int.reduceTMod, Int.reduceTDiv, Int.reduceFDiv, Int.reducePow, Nat.reduceMod, Nat.reduceAnd, Nat.reduceDiv, Nat.reducePow, f37, K37_1, K37_3, K37, K37_1, K37_3, K37, f42, K42]
  refine awake _ _ (fun h2 k2 n2 => ?_)
  have g2 : h2.get wr = some ⟨false, row1⟩ := (k2 wr (by simp (maxSteps := 2000000) (disch := omega) only [stp, ← decide_not, vEqz, eqz, vEqa, eqList, eqAtom, H.at, H.load, vBox, vNewSl, vBld, fill, Mx.part, vClear, vCopy, vBtos, source, lenV, V.isSl, Mx.room, slcut, cutOp, mkOp, bounds, natIn, H.kill, beq_self_eq_true, if_pos, if_neg, List.cons_append, List.nil_append, List.append_nil, List.length_cons, List.length_nil, List.length_set, List.take_succ_cons, List.take_zero, List.drop_succ_cons, List.drop_zero, List.take_nil, List.drop_nil, List.all_cons, List.all_nil, ite_self, if_true, if_false, ite_true, ite_false, reduceIte, reduceDIte, eq_self, ne_eq, gt_iff_lt, ge_iff_le, Option.map_some, Option.map_none, Nat.reduceAdd, Nat.reduceMul, Nat.reduceSub, Nat.reduceLT, Nat.reduceLeDiff, Nat.reduceEqDiff, Nat.reduceSucc, Int.reduceAdd, Int.reduceSub, Int.reduceMul, Int.reduceNeg, Int.reduceLT, Int.reduceLE, Int.reduceEq, Int.reduceNe, Int.reduceToNat, Int.reduceTMod, Int.reduceTDiv, Int.reduceFDiv, Int.reducePow, Nat.reduceMod, Nat.reduceAnd, Nat.reduceDiv, Nat.reducePow, ]; omega)).trans (by simp (maxSteps := 2000000) (disch := omega) only [stp, ← decide_not, vEqz, eqz, vEqa, eqList, eqAtom, H.at, H.load, vBox, vNewSl, vBld, fill, Mx.part, vClear, vCopy, vBtos, source, lenV, V.isSl, Mx.room, slcut, cutOp, mkOp, bounds, natIn, H.kill, beq_self_eq_true, if_pos, if_neg, List.cons_append, List.nil_append, List.append_nil, List.length_cons, List.length_nil, List.length_set, List.take_succ_cons, List.take_zero, List.drop_succ_cons, List.drop_zero, List.take_nil, List.drop_nil, List.all_cons, List.all_nil, ite_self, if_true, if_false, ite_true, ite_false, reduceIte, reduceDIte, eq_self, ne_eq, gt_iff_lt, ge_iff_le, Option.map_some, Option.map_none, Nat.reduceAdd, Nat.reduceMul, Nat.reduceSub, Nat.reduceLT, Nat.reduceLeDiff, Nat.reduceEqDiff, Nat.reduceSucc, Int.reduceAdd, Int.reduceSub, Int.reduceMul, Int.reduceNeg, Int.reduceLT, Int.reduceLE, Int.reduceEq, Int.reduceNe, Int.reduceToNat, Int.reduceTMod, Int.reduceTDiv, Int.reduceFDiv, Int.reducePow, Nat.reduceMod, Nat.reduceAnd, Nat.reduceDiv, Nat.reducePow, ]; exact g1)
  have ga2 := (k2 ar (by simp (maxSteps := 2000000) (disch := omega) only [stp, ← decide_not, vEqz, eqz, vEqa, eqList, eqAtom, H.at, H.load, vBox, vNewSl, vBld, fill, Mx.part, vClear, vCopy, vBtos, source, lenV, V.isSl, Mx.room, slcut, cutOp, mkOp, bounds, natIn, H.kill, beq_self_eq_true, if_pos, if_neg, List.cons_append, List.nil_append, List.append_nil, List.length_cons, List.length_nil, List.length_set, List.take_succ_cons, List.take_zero, List.drop_succ_cons, List.drop_zero, List.take_nil, List.drop_nil, List.all_cons, List.all_nil, ite_self, if_true, if_false, ite_true, ite_false, reduceIte, reduceDIte, eq_self, ne_eq, gt_iff_lt, ge_iff_le, Option.map_some, Option.map_none, Nat.reduceAdd, Nat.reduceMul, Nat.reduceSub, Nat.reduceLT, Nat.reduceLeDiff, Nat.reduceEqDiff, Nat.reduceSucc, Int.reduceAdd, Int.reduceSub, Int.reduceMul, Int.reduceNeg, Int.reduceLT, Int.reduceLE, Int.reduceEq, Int.reduceNe, Int.reduceToNat, Int.reduceTMod, Int.reduceTDiv, Int.reduceFDiv, Int.reducePow, Nat.reduceMod, Nat.reduceAnd, Nat.reduceDiv, Nat.reducePow, ]; omega)).trans (show _ = some _ by simp (maxSteps := 2000000) (disch := omega) only [stp, ← decide_not, vEqz, eqz, vEqa, eqList, eqAtom, H.at, H.load, vBox, vNewSl, vBld, fill, Mx.part, vClear, vCopy, vBtos, source, lenV, V.isSl, Mx.room, slcut, cutOp, mkOp, bounds, natIn, H.kill, beq_self_eq_true, if_pos, if_neg, List.cons_append, List.nil_append, List.append_nil, List.length_cons, List.length_nil, List.length_set, List.take_succ_cons, List.take_zero, List.drop_succ_cons, List.drop_zero, List.take_nil, List.drop_nil, List.all_cons, List.all_nil, ite_self, if_true, if_false, ite_true, ite_false, reduceIte, reduceDIte, eq_self, ne_eq, gt_iff_lt, ge_iff_le, Option.map_some, Option.map_none, Nat.reduceAdd, Nat.reduceMul, Nat.reduceSub, Nat.reduceLT, Nat.reduceLeDiff, Nat.reduceEqDiff, Nat.reduceSucc, Int.reduceAdd, Int.reduceSub, Int.reduceMul, Int.reduceNeg, Int.reduceLT, Int.reduceLE, Int.reduceEq, Int.reduceNe, Int.reduceToNat, Int.reduceTMod, Int.reduceTDiv, Int.reduceFDiv, Int.reducePow, Nat.reduceMod, Nat.reduceAnd, Nat.reduceDiv, Nat.reducePow, ]; exact ga)
  simp (maxSteps := 2000000) (disch := omega) only [stp, ← decide_not, vEqz, eqz, vEqa, eqList, eqAtom, H.at, H.load, vBox, vNewSl, vBld, fill, Mx.part, vClear, vCopy, vBtos, source, lenV, V.isSl, Mx.room, slcut, cutOp, mkOp, bounds, natIn, H.kill, beq_self_eq_true, if_pos, if_neg, List.cons_append, List.nil_append, List.append_nil, List.length_cons, List.length_nil, List.length_set, List.take_succ_cons, List.take_zero, List.drop_succ_cons, List.drop_zero, List.take_nil, List.drop_nil, List.all_cons, List.all_nil, ite_self, if_true, if_false, ite_true, ite_false, reduceIte, reduceDIte, eq_self, ne_eq, gt_iff_lt, ge_iff_le, Option.map_some, Option.map_none, Nat.reduceAdd, Nat.reduceMul, Nat.reduceSub, Nat.reduceLT, Nat.reduceLeDiff, Nat.reduceEqDiff, Nat.reduceSucc, Int.reduceAdd, Int.reduceSub, Int.reduceMul, Int.reduceNeg, Int.reduceLT, Int.reduceLE, Int.reduceEq, Int.reduceNe, Int.reduceToNat, Int.reduceTMod, Int.reduceTDiv, Int.reduceFDiv, Int.reducePow, Nat.reduceMod, Nat.reduceAnd, Nat.reduceDiv, Nat.reducePow, K9_23, K9_24, K9_25, K9_26, K9_27, K9_28, K9_29, K9_30, K9_31, K9_32, K9_1, K9, f41, K41, f44, K44, f42, K42, g2, w0, wn, c50, ga2]
  refine put0 (fun h3 e3 => ?_)
  have hw2 : wr < h2.nx := by simp (maxSteps := 2000000) (disch := omega) only [stp, ← decide_not, vEqz, eqz, vEqa, eqList, eqAtom, H.at, H.load, vBox, vNewSl, vBld, fill, Mx.part, vClear, vCopy, vBtos, source, lenV, V.isSl, Mx.room, slcut, cutOp, mkOp, bounds, natIn, H.kill, beq_self_eq_true, if_pos, if_neg, List.cons_append, List.nil_append, List.append_nil, List.length_cons, List.length_nil, List.length_set, List.take_succ_cons, List.take_zero, List.drop_succ_cons, List.drop_zero, List.take_nil, List.drop_nil, List.all_cons, List.all_nil, ite_self, if_true, if_false, ite_true, ite_false, reduceIte, reduceDIte, eq_self, ne_eq, gt_iff_lt, ge_iff_le, Option.map_some, Option.map_none, Nat.reduceAdd, Nat.reduceMul, Nat.reduceSub, Nat.reduceLT, Nat.reduceLeDiff, Nat.reduceEqDiff, Nat.reduceSucc, Int.reduceAdd, Int.reduceSub, Int.reduceMul, Int.reduceNeg, Int.reduceLT, Int.reduceLE, Int.reduceEq, Int.reduceNe, Int.reduceToNat, Int.reduceTMod, Int.reduceTDiv, Int.reduceFDiv, Int.reducePow, Nat.reduceMod, Nat.reduceAnd, Nat.reduceDiv, Nat.reducePow, ] at n2; omega
  have g3 := (e3.2 wr hw2).trans g2
  simp (maxSteps := 2000000) (disch := omega) only [stp, ← decide_not, vEqz, eqz, vEqa, eqList, eqAtom, H.at, H.load, vBox, vNewSl, vBld, fill, Mx.part, vClear, vCopy, vBtos, source, lenV, V.isSl, Mx.room, slcut, cutOp, mkOp, bounds, natIn, H.kill, beq_self_eq_true, if_pos, if_neg, List.cons_append, List.nil_append, List.append_nil, List.length_cons, List.length_nil, List.length_set, List.take_succ_cons, List.take_zero, List.drop_succ_cons, List.drop_zero, List.take_nil, List.drop_nil, List.all_cons, List.all_nil, ite_self, if_true, if_false, ite_true, ite_false, reduceIte, reduceDIte, eq_self, ne_eq, gt_iff_lt, ge_iff_le, Option.map_some, Option.map_none, Nat.reduceAdd, Nat.reduceMul, Nat.reduceSub, Nat.reduceLT, Nat.reduceLeDiff, Nat.reduceEqDiff, Nat.reduceSucc, Int.reduceAdd, Int.reduceSub, Int.reduceMul, Int.reduceNeg, Int.reduceLT, Int.reduceLE, Int.reduceEq, Int.reduceNe, Int.reduceToNat, Int.reduceTMod, Int.reduceTDiv, Int.reduceFDiv, Int.reducePow, Nat.reduceMod, Nat.reduceAnd, Nat.reduceDiv, Nat.reducePow, K9_23, K9_24, K9_25, K9_26, K9_27, K9_28, K9_29, K9_30, K9_31, K9_32, K9_1, K9, f41, K41, f44, K44, f42, K42, g3, w0, wn, c50]
  refine putn (fun h4 e4 => ?_)
  simp (maxSteps := 2000000) (disch := omega) only [stp, ← decide_not, vEqz, eqz, vEqa, eqList, eqAtom, H.at, H.load, vBox, vNewSl, vBld, fill, Mx.part, vClear, vCopy, vBtos, source, lenV, V.isSl, Mx.room, slcut, cutOp, mkOp, bounds, natIn, H.kill, beq_self_eq_true, if_pos, if_neg, List.cons_append, List.nil_append, List.append_nil, List.length_cons, List.length_nil, List.length_set, List.take_succ_cons, List.take_zero, List.drop_succ_cons, List.drop_zero, List.take_nil, List.drop_nil, List.all_cons, List.all_nil, ite_self, if_true, if_false, ite_true, ite_false, reduceIte, reduceDIte, eq_self, ne_eq, gt_iff_lt, ge_iff_le, Option.map_some, Option.map_none, Nat.reduceAdd, Nat.reduceMul, Nat.reduceSub, Nat.reduceLT, Nat.reduceLeDiff, Nat.reduceEqDiff, Nat.reduceSucc, Int.reduceAdd, Int.reduceSub, Int.reduceMul, Int.reduceNeg, Int.reduceLT, Int.reduceLE, Int.reduceEq, Int.reduceNe, Int.reduceToNat, Int.reduceTMod, Int.reduceTDiv, Int.reduceFDiv, Int.reducePow, Nat.reduceMod, Nat.reduceAnd, Nat.reduceDiv, Nat.reducePow, K9_23, K9_24, K9_25, K9_26, K9_27, K9_28, K9_29, K9_30, K9_31, K9_32, K9_1, K9]
def LoopW (ar wr : Nat) (ao : O) (back : Int) (m : Nat) (x0 x3 x5 x6 : V) (h : H) : Prop :=
  ∃ (i j : Nat) (T : Nat → V) (E : Nat → List (List V)), x0 = .i .i64 back ∧ x3 = .p (some (ar, 0)) ∧ x5 = .p (some (wr, 0)) ∧ x6 = .i .i64 i ∧ i ≤ 259 ∧ m = 259 - i ∧ (i < 256 → j = i) ∧ (256 ≤ i → j = 256) ∧ Wh ar ao h wr T E 100 j j ∧ Ct j T E
theorem wloop {ar wr : Nat} {back a0 a1 a2 a3 a4 : Int} {h : H} {T : Nat → V} {E : Nat → List (List V)} (w : Wh ar ⟨false, [.i .i64 a0, .i .i64 a1, .i .i64 a2, .i .i64 a3, .i .i64 a4]⟩ h wr T E 100 (0 : Nat) (0 : Nat)) (k : Ct 0 T E) :
    @W9_33 (.i .i64 back) (.p (some (ar, 0))) (.p (some (wr, 0))) (.i .i64 0) h ⟨fun v _ => v = .b true⟩ := by
  refine W9_33_inv (LoopW ar wr ⟨false, [.i .i64 a0, .i .i64 a1, .i .i64 a2, .i .i64 a3, .i .i64 a4]⟩ back) ?_ 259 _ _ _ _ _ ⟨0, 0, T, E, rfl, rfl, rfl, rfl, by omega, rfl, fun _ => rfl, fun h => by omega, w, k⟩
  rintro m _ _ _ _ h1 ⟨i, j, T1, E1, rfl, rfl, rfl, rfl, hi, rfl, hj1, hj2, w1, k1⟩
  by_cases h256 : i < 256
  · have hj := hj1 h256
    subst hj
    have hci := cell_in (101 + j) (101 + j - 100)
    simp (maxSteps := 2000000) (disch := omega) only [stp, ← decide_not, vEqz, eqz, vEqa, eqList, eqAtom, H.at, H.load, vBox, vNewSl, vBld, fill, Mx.part, vClear, vCopy, vBtos, source, lenV, V.isSl, Mx.room, slcut, cutOp, mkOp, bounds, natIn, H.kill, beq_self_eq_true, if_pos, if_neg, List.cons_append, List.nil_append, List.append_nil, List.length_cons, List.length_nil, List.length_set, List.take_succ_cons, List.take_zero, List.drop_succ_cons, List.drop_zero, List.take_nil, List.drop_nil, List.all_cons, List.all_nil, ite_self, if_true, if_false, ite_true, ite_false, reduceIte, reduceDIte, eq_self, ne_eq, gt_iff_lt, ge_iff_le, Option.map_some, Option.map_none, Nat.reduceAdd, Nat.reduceMul, Nat.reduceSub, Nat.reduceLT, Nat.reduceLeDiff, Nat.reduceEqDiff, Nat.reduceSucc, Int.reduceAdd, Int.reduceSub, Int.reduceMul, Int.reduceNeg, Int.reduceLT, Int.reduceLE, Int.reduceEq, Int.reduceNe, Int.reduceToNat, Int.reduceTMod, Int.reduceTDiv, Int.reduceFDiv, Int.reducePow, Nat.reduceMod, Nat.reduceAnd, Nat.reduceDiv, Nat.reducePow, L9_33]
    refine put_ok (a := 101 + j) (s := j) w1 (by omega) (by omega) (by omega) (by omega) (k1.oth (Int.le_refl _)) (by have := (k1.all _ hci.1 (by omega)).1; omega) (fun h2 T2 W l hT => ?_)
    simp (maxSteps := 2000000) (disch := omega) only [stp, ← decide_not, vEqz, eqz, vEqa, eqList, eqAtom, H.at, H.load, vBox, vNewSl, vBld, fill, Mx.part, vClear, vCopy, vBtos, source, lenV, V.isSl, Mx.room, slcut, cutOp, mkOp, bounds, natIn, H.kill, beq_self_eq_true, if_pos, if_neg, List.cons_append, List.nil_append, List.append_nil, List.length_cons, List.length_nil, List.length_set, List.take_succ_cons, List.take_zero, List.drop_succ_cons, List.drop_zero, List.take_nil, List.drop_nil, List.all_cons, List.all_nil, ite_self, if_true, if_false, ite_true, ite_false, reduceIte, reduceDIte, eq_self, ne_eq, gt_iff_lt, ge_iff_le, Option.map_some, Option.map_none, Nat.reduceAdd, Nat.reduceMul, Nat.reduceSub, Nat.reduceLT, Nat.reduceLeDiff, Nat.reduceEqDiff, Nat.reduceSucc, Int.reduceAdd, Int.reduceSub, Int.reduceMul, Int.reduceNeg, Int.reduceLT, Int.reduceLE, Int.reduceEq, Int.reduceNe, Int.reduceToNat, Int.reduceTMod, Int.reduceTDiv, Int.reduceFDiv, Int.reducePow, Nat.reduceMod, Nat.reduceAnd, Nat.reduceDiv, Nat.reducePow, ]
    have e : ((j + 1 : Nat) : Int) = j + 1 := by omega
    refine ⟨259 - (j + 1), by omega, j + 1, j + 1, T2, _, rfl, rfl, rfl, rfl, by omega, rfl, fun _ => rfl, fun h => by omega, by rw [e]; exact W, k1.step h256 hT _⟩
  · have hj := hj2 (by omega)
    subst hj
    by_cases h259 : i < 259
    · simp (maxSteps := 2000000) (disch := omega) only [stp, ← decide_not, vEqz, eqz, vEqa, eqList, eqAtom, H.at, H.load, vBox, vNewSl, vBld, fill, Mx.part, vClear, vCopy, vBtos, source, lenV, V.isSl, Mx.room, slcut, cutOp, mkOp, bounds, natIn, H.kill, beq_self_eq_true, if_pos, if_neg, List.cons_append, List.nil_append, List.append_nil, List.length_cons, List.length_nil, List.length_set, List.take_succ_cons, List.take_zero, List.drop_succ_cons, List.drop_zero, List.take_nil, List.drop_nil, List.all_cons, List.all_nil, ite_self, if_true, if_false, ite_true, ite_false, reduceIte, reduceDIte, eq_self, ne_eq, gt_iff_lt, ge_iff_le, Option.map_some, Option.map_none, Nat.reduceAdd, Nat.reduceMul, Nat.reduceSub, Nat.reduceLT, Nat.reduceLeDiff, Nat.reduceEqDiff, Nat.reduceSucc, Int.reduceAdd, Int.reduceSub, Int.reduceMul, Int.reduceNeg, Int.reduceLT, Int.reduceLE, Int.reduceEq, Int.reduceNe, Int.reduceToNat, Int.reduceTMod, Int.reduceTDiv, Int.reduceFDiv, Int.reducePow, Nat.reduceMod, Nat.reduceAnd, Nat.reduceDiv, Nat.reducePow, L9_33]
      refine put_full (a := 101 + i) (s := i) w1 (by omega) (k1.oth (by omega)) (fun h2 e2 => ?_)
      simp (maxSteps := 2000000) (disch := omega) only [stp, ← decide_not, vEqz, eqz, vEqa, eqList, eqAtom, H.at, H.load, vBox, vNewSl, vBld, fill, Mx.part, vClear, vCopy, vBtos, source, lenV, V.isSl, Mx.room, slcut, cutOp, mkOp, bounds, natIn, H.kill, beq_self_eq_true, if_pos, if_neg, List.cons_append, List.nil_append, List.append_nil, List.length_cons, List.length_nil, List.length_set, List.take_succ_cons, List.take_zero, List.drop_succ_cons, List.drop_zero, List.take_nil, List.drop_nil, List.all_cons, List.all_nil, ite_self, if_true, if_false, ite_true, ite_false, reduceIte, reduceDIte, eq_self, ne_eq, gt_iff_lt, ge_iff_le, Option.map_some, Option.map_none, Nat.reduceAdd, Nat.reduceMul, Nat.reduceSub, Nat.reduceLT, Nat.reduceLeDiff, Nat.reduceEqDiff, Nat.reduceSucc, Int.reduceAdd, Int.reduceSub, Int.reduceMul, Int.reduceNeg, Int.reduceLT, Int.reduceLE, Int.reduceEq, Int.reduceNe, Int.reduceToNat, Int.reduceTMod, Int.reduceTDiv, Int.reduceFDiv, Int.reducePow, Nat.reduceMod, Nat.reduceAnd, Nat.reduceDiv, Nat.reducePow, ]
      exact ⟨259 - (i + 1), by omega, i + 1, 256, T1, E1, rfl, rfl, rfl, rfl, by omega, rfl, fun h => by omega, fun _ => rfl, w1.ext e2, k1⟩
    · have : i = 259 := by omega
      subst this
      simp (maxSteps := 2000000) (disch := omega) only [stp, ← decide_not, vEqz, eqz, vEqa, eqList, eqAtom, H.at, H.load, vBox, vNewSl, vBld, fill, Mx.part, vClear, vCopy, vBtos, source, lenV, V.isSl, Mx.room, slcut, cutOp, mkOp, bounds, natIn, H.kill, beq_self_eq_true, if_pos, if_neg, List.cons_append, List.nil_append, List.append_nil, List.length_cons, List.length_nil, List.length_set, List.take_succ_cons, List.take_zero, List.drop_succ_cons, List.drop_zero, List.take_nil, List.drop_nil, List.all_cons, List.all_nil, ite_self, if_true, if_false, ite_true, ite_false, reduceIte, reduceDIte, eq_self, ne_eq, gt_iff_lt, ge_iff_le, Option.map_some, Option.map_none, Nat.reduceAdd, Nat.reduceMul, Nat.reduceSub, Nat.reduceLT, Nat.reduceLeDiff, Nat.reduceEqDiff, Nat.reduceSucc, Int.reduceAdd, Int.reduceSub, Int.reduceMul, Int.reduceNeg, Int.reduceLT, Int.reduceLE, Int.reduceEq, Int.reduceNe, Int.reduceToNat, Int.reduceTMod, Int.reduceTDiv, Int.reduceFDiv, Int.reducePow, Nat.reduceMod, Nat.reduceAnd, Nat.reduceDiv, Nat.reducePow, L9_33]
      exact fin9 w1 k1
def W0 : List V := .i .i64 100 :: (List.replicate 50 V.nsl ++ [.i .i64 0, .i .i64 0])
theorem wr0 : Wr W0 (fun _ => .nsl) 100 (0 : Nat) (0 : Nat) := by
  refine ⟨rfl, rfl, fun c h1 h2 => ?_, rfl, rfl⟩
  obtain ⟨c, rfl⟩ : ∃ c', c = c' + 1 := ⟨c - 1, by omega⟩
  unfold W0
  rw [List.getElem?_cons_succ, List.getElem?_append_left (by simp; omega), List.getElem?_replicate, if_pos (by omega)]
theorem main (back : Int) (a0 : Int) (a1 : Int) (a2 : Int) (a3 : Int) (a4 : Int) (wback : (Lit.int .i64 back).wf = true) (wa0 : (Lit.int .i64 a0).wf = true) (wa1 : (Lit.int .i64 a1).wf = true) (wa2 : (Lit.int .i64 a2).wf = true) (wa3 : (Lit.int .i64 a3).wf = true) (wa4 : (Lit.int .i64 a4).wf = true) : Fnc IrWheelMost.IP 9 [.i .i64 back, .agg [.i .i64 a0, .i .i64 a1, .i .i64 a2, .i .i64 a3, .i .i64 a4]] ⟨0, .l⟩ (fun v _ => v = .b true) := by
  rw [wF_in, f9]
  simp (maxSteps := 2000000) (disch := omega) only [stp, ← decide_not, vEqz, eqz, vEqa, eqList, eqAtom, H.at, H.load, vBox, vNewSl, vBld, fill, Mx.part, vClear, vCopy, vBtos, source, lenV, V.isSl, Mx.room, slcut, cutOp, mkOp, bounds, natIn, H.kill, beq_self_eq_true, if_pos, if_neg, List.cons_append, List.nil_append, List.append_nil, List.length_cons, List.length_nil, List.length_set, List.take_succ_cons, List.take_zero, List.drop_succ_cons, List.drop_zero, List.take_nil, List.drop_nil, List.all_cons, List.all_nil, ite_self, if_true, if_false, ite_true, ite_false, reduceIte, reduceDIte, eq_self, ne_eq, gt_iff_lt, ge_iff_le, Option.map_some, Option.map_none, Nat.reduceAdd, Nat.reduceMul, Nat.reduceSub, Nat.reduceLT, Nat.reduceLeDiff, Nat.reduceEqDiff, Nat.reduceSucc, Int.reduceAdd, Int.reduceSub, Int.reduceMul, Int.reduceNeg, Int.reduceLT, Int.reduceLE, Int.reduceEq, Int.reduceNe, Int.reduceToNat, Int.reduceTMod, Int.reduceTDiv, Int.reduceFDiv, Int.reducePow, Nat.reduceMod, Nat.reduceAnd, Nat.reduceDiv, Nat.reducePow, K9_23, K9_24, K9_25, K9_26, K9_27, K9_28, K9_29, K9_30, K9_31, K9_32, K9_1, K9, f34, K34, f86, K86]
  refine wloop (a0 := a0) (a1 := a1) (a2 := a2) (a3 := a3) (a4 := a4) (T := fun _ => .nsl) (E := fun _ => []) ⟨⟨W0, ?_, wr0⟩, ?_, fun c _ _ => .inl ⟨rfl, rfl⟩, fun c _ _ => by simp, fun c _ _ e he => (by cases he), ⟨?_, ?_, by omega, fun c m k _ _ e => (by cases e)⟩, fun c id m k _ _ e => (by cases e), fun c c' id m k m' k' _ _ _ _ e _ => (by cases e)⟩ ⟨fun c _ _ => ⟨by simp, fun e he => (by cases he)⟩, fun _ => rfl, fun h => by omega, rfl, rfl⟩
  · rw [H.get_new, H.nx_new, if_pos rfl]
    rfl
  · simp only [H.nx_new]; omega
  · rw [H.get_new, H.nx_new, if_neg (by simp), H.get_new, if_pos rfl]
  · simp only [H.nx_new]; omega
theorem law : ∀ vs h, ArgsOK shape ⟨0, .l⟩ vs h → ∃ k h', ev IrWheelMost.IP k 9 vs h = some (.b true, h') := by
  rintro vs h ⟨_, _, ⟨_, _, rfl, ⟨back, rfl, wback⟩, rfl⟩, rfl, _, _, ⟨_, _, rfl, ⟨a0, rfl, wa0⟩, ⟨_, _, rfl, ⟨a1, rfl, wa1⟩, ⟨_, _, rfl, ⟨a2, rfl, wa2⟩, ⟨_, _, rfl, ⟨a3, rfl, wa3⟩, ⟨_, _, rfl, ⟨a4, rfl, wa4⟩, rfl⟩⟩⟩⟩⟩, rfl, rfl, rfl⟩
  exact law_of_fnc (main back a0 a1 a2 a3 a4 wback wa0 wa1 wa2 wa3 wa4)
end Go.Proofs.Ytonhcimkodgijaa.PureWheelMost
