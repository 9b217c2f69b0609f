/-
  The pure law of WheelFar: the abstract machine finds it true at every input.
-/
import Derived.Test.YtonhcimkodgijaaIrWheelFar
import Derived.Test.YtonhcimkodgijaaMxT
import Derived.KernelRfl
namespace Go.Proofs.Ytonhcimkodgijaa.PureWheelFar
open Go Mx Go.Proofs.Ytonhcimkodgijaa
set_option linter.unusedVariables false
def shape : List AK := [.pl false [.i .i64], .pl false [.i .i64], .sl [.i .i64]]

theorem aks : aksOf Try.prog Try.f8.params.toList = some shape := by kernel_rfl
set_option maxRecDepth 10000
set_option maxHeartbeats 8000000
set_option linter.unusedSimpArgs false
open IrWheelFar
theorem stp : type_of% (And.intro @Bnd_some (And.intro @Bnd_none (And.intro @Sel_true (And.intro @Sel_false (And.intro @Sel_not (And.intro @Grd_tt (And.intro @Grd_ff (And.intro @Grd_tf (And.intro @Grd_ft (And.intro @Grd_undef (And.intro @Chk_true (And.intro @Hid_un (And.intro @wV_fn (And.intro @vPick_t (And.intro @vPick_f (And.intro @vCvi_i (And.intro @vFa_p (And.intro @vNilc_p (And.intro @vNilc_f (And.intro @vFld_a (And.intro @vIxa_a (And.intro @vIa_s (And.intro @vIaa_p (And.intro @vExt_t (And.intro @vLens_s (And.intro @vCaps_s (And.intro @vCaps_n (And.intro @vCaps_e (And.intro @vLens_n (And.intro @vLens_e (And.intro @vLens_so (And.intro @vLent_s (And.intro @vLdA_p (And.intro @vLd1_p (And.intro @vStore_p (And.intro @vMake_i (And.intro @stdy_p (And.intro @stdyG_b (And.intro @stdyG_u (And.intro @cut_S (And.intro @cut_Z (And.intro @cut_C (And.intro @lay_S (And.intro @lay_Z (And.intro @lay_C (And.intro @load_one (And.intro @H.store_of (And.intro @atS (And.intro @atZ (And.intro @setS (And.intro @setZ (And.intro @getS (And.intro @getZ (And.intro @mapN (And.intro @mapC (And.intro @fold_n (And.intro @fold_min (And.intro @fold_max (And.intro @b_land (And.intro @land64 (And.intro @b_lor (And.intro @b_add (And.intro @b_sub (And.intro @b_mul (And.intro @b_quo (And.intro @b_rem (And.intro @b_eql (And.intro @b_neq (And.intro @b_lss (And.intro @b_leq (And.intro @b_gtr (And.intro @b_geq (And.intro @un_not (And.intro @un_neg (And.intro @wrap64 (And.intro @wrap32u (And.intro @wrap64u (And.intro @wrap8u (And.intro @beq_ft (And.intro @beq_tf (And.intro @same_refl (And.intro @sames_refl (And.intro @dec_t (And.intro @dec_f (And.intro @Int.max_eq_left (And.intro @Int.max_eq_right (And.intro @Int.min_eq_left (And.intro @Int.min_eq_right (And.intro @cells_i (And.intro @one_i (And.intro @cells_b (And.intro @one_b (And.intro @cells_s (And.intro @one_s (And.intro @cells_p (And.intro @one_p (And.intro @cells_sl (And.intro @one_sl (And.intro @cells_nsl (And.intro @one_nsl (And.intro @cells_es (And.intro @cells_so (And.intro @one_es (And.intro @one_so (And.intro @cells_fn (And.intro @one_fn (And.intro @cells_nfn (And.intro @one_nfn (And.intro @cells_agg (And.intro @Bool.not_eq_true (And.intro @Bool.not_eq_false (And.intro @H.get_new (And.intro @H.get_put (And.intro @H.nx_new (And.intro @H.nx_put (And.intro @Bool.and_true (And.intro @Bool.true_and (And.intro @Bool.and_false (And.intro @Bool.false_and (And.intro @iff_self (And.intro @and_true (And.intro @true_and (And.intro @and_false (And.intro @false_and (And.intro @or_false (And.intro @false_or (And.intro @or_true (And.intro @true_or (And.intro @not_true_eq_false (And.intro @not_false_eq_true (And.intro @Bool.not_true (And.intro @Bool.not_false (And.intro @Bool.not_not (And.intro @Bool.true_eq_false (And.intro @Bool.false_eq_true (And.intro @decide_true (And.intro @decide_false (And.intro @Nat.zero_add (And.intro @Nat.add_zero (And.intro @Nat.mul_one (And.intro @Nat.zero_ne_one (And.intro @Int.toNat_natCast (And.intro @Int.cast_ofNat_Int (And.intro @Int.natCast_zero (And.intro @Int.natCast_one (@Nat.not_lt_zero)))))))))))))))))))))))))))))))))))))))))))))))))))))))))))))))))))))))))))))))))))))))))))))))))))))))))))))))))))))))))))))))))))))))))))))))))) := And.intro @Bnd_some (And.intro @Bnd_none (And.intro @Sel_true (And.intro @Sel_false (And.intro @Sel_not (And.intro @Grd_tt (And.intro @Grd_ff (And.intro @Grd_tf (And.intro @Grd_ft (And.intro @Grd_undef (And.intro @Chk_true (And.intro @Hid_un (And.intro @wV_fn (And.intro @vPick_t (And.intro @vPick_f (And.intro @vCvi_i (And.intro @vFa_p (And.intro @vNilc_p (And.intro @vNilc_f (And.intro @vFld_a (And.intro @vIxa_a (And.intro @vIa_s (And.intro @vIaa_p (And.intro @vExt_t (And.intro @vLens_s (And.intro @vCaps_s (And.intro @vCaps_n (And.intro @vCaps_e (And.intro @vLens_n (And.intro @vLens_e (And.intro @vLens_so (And.intro @vLent_s (And.intro @vLdA_p (And.intro @vLd1_p (And.intro @vStore_p (And.intro @vMake_i (And.intro @stdy_p (And.intro @stdyG_b (And.intro @stdyG_u (And.intro @cut_S (And.intro @cut_Z (And.intro @cut_C (And.intro @lay_S (And.intro @lay_Z (And.intro @lay_C (And.intro @load_one (And.intro @H.store_of (And.intro @atS (And.intro @atZ (And.intro @setS (And.intro @setZ (And.intro @getS (And.intro @getZ (And.intro @mapN (And.intro @mapC (And.intro @fold_n (And.intro @fold_min (And.intro @fold_max (And.intro @b_land (And.intro @land64 (And.intro @b_lor (And.intro @b_add (And.intro @b_sub (And.intro @b_mul (And.intro @b_quo (And.intro @b_rem (And.intro @b_eql (And.intro @b_neq (And.intro @b_lss (And.intro @b_leq (And.intro @b_gtr (And.intro @b_geq (And.intro @un_not (And.intro @un_neg (And.intro @wrap64 (And.intro @wrap32u (And.intro @wrap64u (And.intro @wrap8u (And.intro @beq_ft (And.intro @beq_tf (And.intro @same_refl (And.intro @sames_refl (And.intro @dec_t (And.intro @dec_f (And.intro @Int.max_eq_left (And.intro @Int.max_eq_right (And.intro @Int.min_eq_left (And.intro @Int.min_eq_right (And.intro @cells_i (And.intro @one_i (And.intro @cells_b (And.intro @one_b (And.intro @cells_s (And.intro @one_s (And.intro @cells_p (And.intro @one_p (And.intro @cells_sl (And.intro @one_sl (And.intro @cells_nsl (And.intro @one_nsl (And.intro @cells_es (And.intro @cells_so (And.intro @one_es (And.intro @one_so (And.intro @cells_fn (And.intro @one_fn (And.intro @cells_nfn (And.intro @one_nfn (And.intro @cells_agg (And.intro @Bool.not_eq_true (And.intro @Bool.not_eq_false (And.intro @H.get_new (And.intro @H.get_put (And.intro @H.nx_new (And.intro @H.nx_put (And.intro @Bool.and_true (And.intro @Bool.true_and (And.intro @Bool.and_false (And.intro @Bool.false_and (And.intro @iff_self (And.intro @and_true (And.intro @true_and (And.intro @and_false (And.intro @false_and (And.intro @or_false (And.intro @false_or (And.intro @or_true (And.intro @true_or (And.intro @not_true_eq_false (And.intro @not_false_eq_true (And.intro @Bool.not_true (And.intro @Bool.not_false (And.intro @Bool.not_not (And.intro @Bool.true_eq_false (And.intro @Bool.false_eq_true (And.intro @decide_true (And.intro @decide_false (And.intro @Nat.zero_add (And.intro @Nat.add_zero (And.intro @Nat.mul_one (And.intro @Nat.zero_ne_one (And.intro @Int.toNat_natCast (And.intro @Int.cast_ofNat_Int (And.intro @Int.natCast_zero (And.intro @Int.natCast_one (@Nat.not_lt_zero)))))))))))))))))))))))))))))))))))))))))))))))))))))))))))))))))))))))))))))))))))))))))))))))))))))))))))))))))))))))))))))))))))))))))))))))))
/-! ### what is one's own, and what stays as it is -/
def Fr (h : H) (own : Nat → Prop) (h' : H) (own' : Nat → Prop) : Prop := h.nx ≤ h'.nx ∧ ∀ id, id < h.nx → ¬ own id → h'.get id = h.get id ∧ ¬ own' id
theorem Fr.refl (h : H) (own : Nat → Prop) : Fr h own h own := ⟨Nat.le_refl _, fun _ _ ho => ⟨rfl, ho⟩⟩
theorem Fr.trans {h h1 h2 : H} {o o1 o2 : Nat → Prop} (a : Fr h o h1 o1) (b : Fr h1 o1 h2 o2) : Fr h o h2 o2 :=
  ⟨Nat.le_trans a.1 b.1, fun id hid ho => by
    obtain ⟨e1, k1⟩ := a.2 id hid ho
    obtain ⟨e2, k2⟩ := b.2 id (Nat.lt_of_lt_of_le hid a.1) k1
    exact ⟨e2.trans e1, k2⟩⟩
/-- a row that is nobody's -/
def Has (h : H) (own : Nat → Prop) (id : Nat) (o : O) : Prop := id < h.nx ∧ ¬ own id ∧ h.get id = some o
theorem Fr.has {h h1 : H} {o o1 : Nat → Prop} (a : Fr h o h1 o1) {id : Nat} {r : O} (k : Has h o id r) : Has h1 o1 id r := by
  obtain ⟨k1, k2, k3⟩ := k
  obtain ⟨e1, e2⟩ := a.2 id k1 k2
  exact ⟨Nat.lt_of_lt_of_le k1 a.1, e2, e1.trans k3⟩
def iv (x : Int) : V := .i .i64 x
def iu (x : Int) : V := .i .u64 x
theorem fr_new (h : H) (own : Nat → Prop) (hb : ∀ id, own id → id < h.nx) (o : O) : Fr h own (h.new o) own :=
  ⟨by simp, fun id hid ho => ⟨by rw [H.get_new, if_neg (by omega)], ho⟩⟩

def Ext (h h' : H) : Prop := h.nx ≤ h'.nx ∧ ∀ id, id < h.nx → h'.get id = h.get id
theorem Ext.refl (h : H) : Ext h h := ⟨Nat.le_refl _, fun _ _ => rfl⟩
theorem Ext.trans {h h1 h2 : H} (a : Ext h h1) (b : Ext h1 h2) : Ext h h2 := ⟨Nat.le_trans a.1 b.1, fun id hid => (b.2 id (Nat.lt_of_lt_of_le hid a.1)).trans (a.2 id hid)⟩
theorem ext_new (h : H) (o : O) : Ext h (h.new o) := ⟨by simp, fun id hid => by rw [H.get_new, if_neg (by omega)]⟩
theorem Ext.fr {h h' : H} (a : Ext h h') (own : Nat → Prop) : Fr h own h' own := ⟨a.1, fun id hid ho => ⟨a.2 id hid, ho⟩⟩
theorem zrep_one (x : V) : ∀ n, zrep [x] n = List.replicate n x
  | 0 => rfl
  | n + 1 => by rw [zrepS, zrep_one x n]; rfl

/-! ### rows of records -/
theorem flat_len {w : Nat} : ∀ {R : List (List V)}, (∀ r ∈ R, r.length = w) → R.flatten.length = R.length * w
  | [], _ => by simp
  | r :: R, h => by
    rw [List.flatten_cons, List.length_append, flat_len (fun x hx => h x (List.mem_cons_of_mem _ hx)), h r (List.mem_cons_self ..), List.length_cons, Nat.add_mul]
    omega
theorem flat_drop {w : Nat} : ∀ {R : List (List V)}, (∀ r ∈ R, r.length = w) → ∀ (i : Nat) (t : List V), i ≤ R.length → (R.flatten ++ t).drop (i * w) = (R.drop i).flatten ++ t
  | R, _, 0, t, _ => by simp
  | [], _, i + 1, t, hi => by simp at hi
  | r :: R, h, i + 1, t, hi => by
    have hr := h r (List.mem_cons_self ..)
    rw [List.flatten_cons, List.append_assoc, Nat.add_mul, Nat.one_mul, Nat.add_comm, ← List.drop_drop, ← hr, List.drop_left, hr]
    rw [flat_drop (fun x hx => h x (List.mem_cons_of_mem _ hx)) i t (by simpa using hi)]
    rfl
theorem flat_take {w : Nat} : ∀ {R : List (List V)}, (∀ r ∈ R, r.length = w) → ∀ (i : Nat) (t : List V), i ≤ R.length → (R.flatten ++ t).take (i * w) = (R.take i).flatten
  | R, _, 0, t, _ => by simp
  | [], _, i + 1, t, hi => by simp at hi
  | r :: R, h, i + 1, t, hi => by
    have hr := h r (List.mem_cons_self ..)
    rw [List.flatten_cons, List.append_assoc, Nat.add_mul, Nat.one_mul, Nat.add_comm, ← hr, List.take_length_add_append, hr]
    rw [flat_take (fun x hx => h x (List.mem_cons_of_mem _ hx)) i t (by simpa using hi)]
    rfl
theorem wid_take {w : Nat} {R : List (List V)} (h : ∀ r ∈ R, r.length = w) (i : Nat) : ∀ r ∈ R.take i, r.length = w := fun r hr => h r (List.mem_of_mem_take hr)
theorem wid_drop {w : Nat} {R : List (List V)} (h : ∀ r ∈ R, r.length = w) (i : Nat) : ∀ r ∈ R.drop i, r.length = w := fun r hr => h r (List.mem_of_mem_drop hr)
theorem flat_cut_n {w : Nat} {R : List (List V)} (h : ∀ r ∈ R, r.length = w) (i m : Nat) (t : List V) (hi : i + m ≤ R.length) : cut (R.flatten ++ t) (i * w) (m * w) = some ((R.drop i).take m).flatten := by
  unfold cut
  have hl := flat_len h
  have h1 : (i + m) * w ≤ R.length * w := Nat.mul_le_mul_right w hi
  rw [Nat.add_mul] at h1
  rw [if_pos (by rw [List.length_append, hl]; omega), flat_drop h i t (by omega), flat_take (wid_drop h i) m t (by rw [List.length_drop]; omega)]
theorem flat_cut {w : Nat} {R : List (List V)} (h : ∀ r ∈ R, r.length = w) (i : Nat) (t : List V) (hi : i < R.length) : cut (R.flatten ++ t) (i * w) w = some R[i] := by
  have := flat_cut_n h i 1 t (by omega)
  rw [Nat.one_mul] at this
  rw [this, List.drop_eq_getElem_cons hi, List.take_succ_cons, List.take_zero]
  simp
theorem flat_get {w : Nat} {R : List (List V)} (h : ∀ r ∈ R, r.length = w) (i k : Nat) (t : List V) (hi : i < R.length) (hk : k < w) : (R.flatten ++ t)[i * w + k]? = R[i][k]? := by
  have h1 := flat_drop h i t (by omega)
  rw [← List.getElem?_drop, h1, List.drop_eq_getElem_cons hi, List.flatten_cons, List.append_assoc, List.getElem?_append_left (by rw [h _ (List.getElem_mem hi)]; exact hk)]
theorem wid_set {w : Nat} {R : List (List V)} (h : ∀ r ∈ R, r.length = w) (i : Nat) {r' : List V} (hr : r'.length = w) : ∀ r ∈ R.set i r', r.length = w := by
  intro r hm
  rcases List.mem_or_eq_of_mem_set hm with hm | rfl
  · exact h r hm
  · exact hr
theorem flat_lay {w : Nat} {R : List (List V)} (h : ∀ r ∈ R, r.length = w) (i : Nat) (t : List V) (hi : i < R.length) {r' : List V} (hr : r'.length = w) : lay (R.flatten ++ t) (i * w) r' = (R.set i r').flatten ++ t := by
  unfold lay
  rw [flat_take h i t (by omega), hr, show i * w + w = (i + 1) * w by rw [Nat.add_mul]; omega, flat_drop h (i + 1) t (by omega), List.set_eq_take_append_cons_drop, if_pos hi]
  simp [List.append_assoc]
theorem flat_set {w : Nat} {R : List (List V)} (h : ∀ r ∈ R, r.length = w) (i k : Nat) (t : List V) (hi : i < R.length) (hk : k < w) (v : V) : (R.flatten ++ t).set (i * w + k) v = (R.set i (R[i].set k v)).flatten ++ t := by
  have hw := h _ (List.getElem_mem hi)
  have hl := flat_len h
  have h1 : (i + 1) * w ≤ R.length * w := Nat.mul_le_mul_right w hi
  rw [Nat.add_mul, Nat.one_mul] at h1
  have e1 : R.flatten ++ t = (R.take i).flatten ++ (R[i] ++ ((R.drop (i + 1)).flatten ++ t)) := by
    have := List.take_append_drop (i * w) (R.flatten ++ t)
    rw [flat_take h i t (by omega), flat_drop h i t (by omega), List.drop_eq_getElem_cons hi, List.flatten_cons, List.append_assoc] at this
    exact this.symm
  have hlt : (R.take i).flatten.length = i * w := by rw [flat_len (wid_take h i), List.length_take, Nat.min_eq_left (by omega)]
  rw [e1, ← hlt, List.set_append_right _ _ (by omega), Nat.add_sub_cancel_left, List.set_append_left _ _ (by omega), List.set_eq_take_append_cons_drop (l := R), if_pos hi]
  simp [List.append_assoc]

/-- a slice of records that grows -/
def SlR (h : H) (T : V) (w : Nat) (R : List (List V)) (own : Nat → Prop) : Prop :=
  (∀ r ∈ R, r.length = w) ∧ ((T = .nsl ∧ R = []) ∨ ∃ rl tail, T = .sl rl 0 R.length (.op w) ∧ h.get rl = some ⟨false, R.flatten ++ tail⟩ ∧ own rl)
theorem SlR.len {h : H} {T : V} {w : Nat} {R : List (List V)} {own : Nat → Prop} (s : SlR h T w R own) : lenV T = some R.length := by
  obtain ⟨_, ⟨rfl, rfl⟩ | ⟨rl, tail, rfl, _⟩⟩ := s <;> rfl
theorem SlR.cells {h : H} {T : V} {w : Nat} {R : List (List V)} {own : Nat → Prop} (s : SlR h T w R own) : T.cells = [T] := by
  obtain ⟨_, ⟨rfl, rfl⟩ | ⟨rl, tail, rfl, _⟩⟩ := s <;> rfl
theorem SlR.one {h : H} {T : V} {w : Nat} {R : List (List V)} {own : Nat → Prop} (s : SlR h T w R own) : T.one = true := by
  obtain ⟨_, ⟨rfl, rfl⟩ | ⟨rl, tail, rfl, _⟩⟩ := s <;> rfl
theorem SlR.vlen {h : H} {T : V} {w : Nat} {R : List (List V)} {own : Nat → Prop} (s : SlR h T w R own) : vLens T = some (.i .i64 R.length) := by
  unfold vLens; rw [s.len]
theorem SlR.move {h h' : H} {T : V} {w : Nat} {R : List (List V)} {own own' : Nat → Prop} (s : SlR h T w R own) (hg : ∀ id, own id → h'.get id = h.get id ∧ own' id) : SlR h' T w R own' := by
  obtain ⟨h1, h2 | ⟨rl, tail, e1, e2, e3⟩⟩ := s
  · exact ⟨h1, .inl h2⟩
  · exact ⟨h1, .inr ⟨rl, tail, e1, (hg _ e3).1.trans e2, (hg _ e3).2⟩⟩
/-- one record more -/
theorem app_one {h : H} {T : V} {w bytes : Nat} {R : List (List V)} {own : Nat → Prop} (s : SlR h T w R own) (hw : 0 < w) (hlt : ∀ id, own id → id < h.nx) {rn : Nat} {ro : Bool} {c : Cap} {r : List V} (hn : h.get rn = some ⟨ro, r⟩) (hr : r.length = w) (h1 : r.all V.one = true)
    (hb : (R.length + 1) * bytes * 2 ≤ 140737488355328) (hb2 : R.length + 1 ≤ 140737488355328) :
    ∃ T' h' own', vApp w bytes T (.sl rn 0 1 c) h = some (T', h') ∧ SlR h' T' w (R ++ [r]) own' ∧ (∀ id, id < h.nx → ¬ own id → h'.get id = h.get id ∧ ¬ own' id) ∧ h.nx ≤ h'.nx ∧ (∀ id, own' id → id < h'.nx) ∧ (∀ id, own id → own' id) ∧ (∀ id, own' id → own id ∨ h.nx ≤ id) := by
  obtain ⟨hR, hs⟩ := s
  have hR' : ∀ x ∈ R ++ [r], x.length = w := by
    intro x hx
    simp only [List.mem_append, List.mem_singleton] at hx
    rcases hx with hx | rfl
    · exact hR x hx
    · exact hr
  have hsrc : source w h (.sl rn 0 1 c) = some r := by
    simp only [source, H.load, hn, Nat.one_mul]
    exact cut_all hr
  have hl := flat_len hR
  unfold vApp
  simp only [hsrc, lenV]
  rcases hs with ⟨rfl, rfl⟩ | ⟨rl, tail, rfl, e2, e3⟩
  · simp only [List.length_nil] at hb hb2
    refine ⟨.sl h.nx 0 1 (.op w), h.new ⟨false, r⟩, fun id => own id ∨ id = h.nx, ?_, ⟨hR', .inr ⟨h.nx, [], rfl, ?_, .inr rfl⟩⟩, ?_, by simp, ?_, fun id h => .inl h, fun id h => ?_⟩
    · simp only [append1]
      rw [if_neg (by omega), if_pos ⟨by unfold room; omega, by unfold room; omega⟩]
    · simp
    · intro id h2 h3
      refine ⟨by rw [H.get_new, if_neg (by omega)], ?_⟩
      rintro (h4 | h4)
      · exact h3 h4
      · omega
    · rintro id (h2 | rfl)
      · have := hlt id h2; simp; omega
      · simp
    · rcases h with h | rfl
      · exact .inl h
      · exact .inr (Nat.le_refl _)
  · have hrl := hlt rl e3
    by_cases hfit : (R.length + 1) * w ≤ (R.flatten ++ tail).length
    · rw [List.length_append, hl, Nat.add_mul] at hfit
      refine ⟨.sl rl 0 (R.length + 1) (.op w), h.put rl (some ⟨false, (R ++ [r]).flatten ++ tail.drop w⟩), own, ?_, ⟨hR', .inr ⟨rl, tail.drop w, by simp, by simp, e3⟩⟩, ?_, by simp, ?_, fun id h => h, fun id h => .inl h⟩
      · simp only [append1]
        rw [if_neg (by omega), if_neg (by simp), e2]
        simp only [Bool.false_eq_true, if_false]
        have hx : lay (R.flatten ++ tail) (0 + R.length * w) r = (R ++ [r]).flatten ++ tail.drop w := by
          unfold lay
          rw [Nat.zero_add, hr]
          have e1 : (R.flatten ++ tail).take (R.length * w) = R.flatten := by rw [← hl]; exact List.take_left
          have e2 : (R.flatten ++ tail).drop (R.length * w + w) = tail.drop w := by rw [← List.drop_drop, ← hl, List.drop_left]
          rw [e1, e2]; simp
        rw [if_pos (by rw [List.length_append, hl, Nat.add_mul]; omega), H.store_of, e2]
        simp only
        rw [if_pos ⟨trivial, by rw [List.length_append, hl, hr]; omega, h1⟩]
        simp only [hx]
      · intro id h2 h3
        refine ⟨by rw [H.get_put, if_neg (by rintro rfl; exact h3 e3)], h3⟩
      · exact hlt
    · refine ⟨.sl h.nx 0 (R.length + 1) (.op w), (h.kill rl).new ⟨false, R.flatten ++ r⟩, fun id => own id ∨ id = h.nx, ?_, ⟨hR', .inr ⟨h.nx, [], by simp, ?_, .inr rfl⟩⟩, ?_, by simp, ?_, fun id h => .inl h, fun id h => ?_⟩
      · simp only [append1]
        rw [if_neg (by omega), if_neg (by simp), e2]
        simp only [Bool.false_eq_true, if_false]
        rw [if_neg (by omega), if_pos ⟨by unfold room; omega, by unfold room; omega, h1⟩]
        have : h.load rl 0 (R.length * w) = some R.flatten := by
          simp only [H.load, e2]
          have := flat_cut_n hR 0 R.length tail (by omega)
          rw [Nat.zero_mul] at this
          rw [this]; simp
        rw [this]
      · rw [H.get_new, H.nx_kill, if_pos rfl]; simp
      · intro id h2 h3
        refine ⟨?_, ?_⟩
        · rw [H.get_new, H.nx_kill, if_neg (by omega), H.get_kill, if_neg (by rintro rfl; exact h3 e3)]
        · rintro (h4 | h4)
          · exact h3 h4
          · omega
      · rintro id (h2 | rfl)
        · have := hlt id h2; simp; omega
        · simp
      · rcases h with h | rfl
        · exact .inl h
        · exact .inr (Nat.le_refl _)

theorem land_in (a b : Int) (h1 : 0 ≤ b) (h2 : b ≤ 9223372036854775807) : 0 ≤ land .i64 a b ∧ land .i64 a b ≤ b := by
  obtain ⟨n, rfl⟩ := Int.eq_ofNat_of_zero_le h1
  unfold land
  have e2 : (BitVec.ofInt IntKind.i64.bits (n : Int)).toNat = n := by
    show (BitVec.ofInt 64 (n : Int)).toNat = n
    rw [BitVec.toNat_ofInt]; omega
  rw [BitVec.toNat_and, e2]
  have := Nat.and_le_right (n := (BitVec.ofInt IntKind.i64.bits a).toNat) (m := n)
  rw [wrap64 (by omega) (by omega)]
  omega
theorem zr1 (z : List V) : zrep z 1 = z := by simp [zrep]
theorem zr2 (z : List V) : zrep z 2 = z ++ z := by simp [zrep, List.replicate_succ]
theorem zr3 (z : List V) : zrep z 3 = z ++ (z ++ z) := by simp [zrep, List.replicate_succ]
theorem zr4 (z : List V) : zrep z 4 = z ++ (z ++ (z ++ z)) := by simp [zrep, List.replicate_succ]
theorem shl2 (k : Int) (hk : k = 0 ∨ k = 1 ∨ k = 2 ∨ k = 3) : ∃ n : Int, bin .shl (.i .i64 2) (.i .u64 k) = some (.i .i64 n) ∧ (n = 2 ∧ k = 0 ∨ n = 4 ∧ k = 1 ∨ n = 8 ∧ k = 2 ∨ n = 16 ∧ k = 3) := by
  rcases hk with rfl | rfl | rfl | rfl
  · exact ⟨2, by kernel_rfl, by omega⟩
  · exact ⟨4, by kernel_rfl, by omega⟩
  · exact ⟨8, by kernel_rfl, by omega⟩
  · exact ⟨16, by kernel_rfl, by omega⟩

/-! ### the wheel -/
def alm (a s : Int) : List V := [.i .i64 a, .i .i64 0, .i .i64 s, .i .i64 3, .i .i64 0]
def ent (a s n : Int) : List V := [.i .i64 a, .i .i64 0, .i .i64 s, .i .i64 3, .i .i64 0, .i .i64 n]
theorem alike {a b s t : Int} {h : H} {Q : V → H → Prop} (q : ∀ h', Ext h h' → Q (.b (decide (s = t))) h') : @wF IP 155 [.agg (alm a s), .agg (alm b t)] h ⟨Q⟩ := by
  unfold alm
  by_cases hst : s = t
  · subst hst
    simp (maxSteps := 2000000) (disch := omega) only [stp, ← decide_not, vEqz, eqz, vEqa, eqList, eqAtom, H.at, H.load, vBox, vNewSl, vBld, fill, Mx.part, vClear, vCopy, vBtos, source, lenV, V.isSl, Mx.room, slcut, cutOp, mkOp, bounds, natIn, H.kill, beq_self_eq_true, if_pos, if_neg, List.cons_append, List.nil_append, List.append_nil, List.length_cons, List.length_nil, List.length_set, List.take_succ_cons, List.take_zero, List.drop_succ_cons, List.drop_zero, List.take_nil, List.drop_nil, List.all_cons, List.all_nil, ite_self, if_true, if_false, ite_true, ite_false, reduceIte, reduceDIte, eq_self, ne_eq, gt_iff_lt, ge_iff_le, Option.map_some, Option.map_none, Nat.reduceAdd, Nat.reduceMul, Nat.reduceSub, Nat.reduceLT, Nat.reduceLeDiff, Nat.reduceEqDiff, Nat.reduceSucc, Int.reduceAdd, Int.reduceSub, Int.reduceMul, Int.reduceNeg, Int.reduceLT, Int.reduceLE, Int.reduceEq, Int.reduceNe, Int.reduceToNat, Int.reduceTMod, Int.reduceTDiv, Int.reduceFDiv, Int.reducePow, Nat.reduceMod, Nat.reduceAnd, Nat.reduceDiv, Nat.reducePow, f155, K155_6, K155_7, K155, K155_6, K155_7, K155]
    have := q _ (((ext_new h ⟨false, alm a s⟩).trans (ext_new _ ⟨false, alm b s⟩)))
    rw [decide_eq_true rfl] at this
    exact this
  · simp (maxSteps := 2000000) (disch := omega) only [stp, ← decide_not, vEqz, eqz, vEqa, eqList, eqAtom, H.at, H.load, vBox, vNewSl, vBld, fill, Mx.part, vClear, vCopy, vBtos, source, lenV, V.isSl, Mx.room, slcut, cutOp, mkOp, bounds, natIn, H.kill, beq_self_eq_true, if_pos, if_neg, List.cons_append, List.nil_append, List.append_nil, List.length_cons, List.length_nil, List.length_set, List.take_succ_cons, List.take_zero, List.drop_succ_cons, List.drop_zero, List.take_nil, List.drop_nil, List.all_cons, List.all_nil, ite_self, if_true, if_false, ite_true, ite_false, reduceIte, reduceDIte, eq_self, ne_eq, gt_iff_lt, ge_iff_le, Option.map_some, Option.map_none, Nat.reduceAdd, Nat.reduceMul, Nat.reduceSub, Nat.reduceLT, Nat.reduceLeDiff, Nat.reduceEqDiff, Nat.reduceSucc, Int.reduceAdd, Int.reduceSub, Int.reduceMul, Int.reduceNeg, Int.reduceLT, Int.reduceLE, Int.reduceEq, Int.reduceNe, Int.reduceToNat, Int.reduceTMod, Int.reduceTDiv, Int.reduceFDiv, Int.reducePow, Nat.reduceMod, Nat.reduceAnd, Nat.reduceDiv, Nat.reducePow, f155, K155_6, K155_7, K155, K155_6, K155_7, K155, hst]
    have := q _ (((ext_new h ⟨false, alm a s⟩).trans (ext_new _ ⟨false, alm b t⟩)))
    rw [decide_eq_false hst] at this
    exact this
/-- is an entry for the same? -/
theorem same {a s n b t : Int} {ra : Nat} {h : H} (hg : h.get ra = some ⟨false, alm b t⟩) (hlt : ra < h.nx) {Q : V → H → Prop} (q : ∀ h', Ext h h' → Q (.b (decide (s = t))) h') : @wF IP 154 [.agg (ent a s n), .p (some (ra, 0))] h ⟨Q⟩ := by
  unfold ent
  have hg' := hg
  unfold alm at hg'
  simp (maxSteps := 2000000) (disch := omega) only [stp, ← decide_not, vEqz, eqz, vEqa, eqList, eqAtom, H.at, H.load, vBox, vNewSl, vBld, fill, Mx.part, vClear, vCopy, vBtos, source, lenV, V.isSl, Mx.room, slcut, cutOp, mkOp, bounds, natIn, H.kill, beq_self_eq_true, if_pos, if_neg, List.cons_append, List.nil_append, List.append_nil, List.length_cons, List.length_nil, List.length_set, List.take_succ_cons, List.take_zero, List.drop_succ_cons, List.drop_zero, List.take_nil, List.drop_nil, List.all_cons, List.all_nil, ite_self, if_true, if_false, ite_true, ite_false, reduceIte, reduceDIte, eq_self, ne_eq, gt_iff_lt, ge_iff_le, Option.map_some, Option.map_none, Nat.reduceAdd, Nat.reduceMul, Nat.reduceSub, Nat.reduceLT, Nat.reduceLeDiff, Nat.reduceEqDiff, Nat.reduceSucc, Int.reduceAdd, Int.reduceSub, Int.reduceMul, Int.reduceNeg, Int.reduceLT, Int.reduceLE, Int.reduceEq, Int.reduceNe, Int.reduceToNat, Int.reduceTMod, Int.reduceTDiv, Int.reduceFDiv, Int.reducePow, Nat.reduceMod, Nat.reduceAnd, Nat.reduceDiv, Nat.reducePow, f154, K154, hg']
  refine alike (a := a) (b := b) (s := s) (t := t) (fun h' e => ?_)
  exact q h' ((ext_new _ _).trans e)
def Sle (h : H) (T : V) (E : List (List V)) : Prop := (T = .nsl ∧ E = []) ∨ ∃ id, T = .sl id 0 E.length (.op 6) ∧ h.get id = some ⟨false, E.flatten⟩ ∧ id < h.nx
theorem Sle.ext {h h' : H} {T : V} {E : List (List V)} (s : Sle h T E) (e : Ext h h') : Sle h' T E := by
  rcases s with s | ⟨id, h1, h2, h3⟩
  · exact .inl s
  · exact .inr ⟨id, h1, (e.2 id h3).trans h2, Nat.lt_of_lt_of_le h3 e.1⟩
theorem Sle.len {h : H} {T : V} {E : List (List V)} (s : Sle h T E) : vLens T = some (.i .i64 E.length) := by
  rcases s with ⟨rfl, rfl⟩ | ⟨id, rfl, _⟩ <;> rfl
theorem Sle.cells {h : H} {T : V} {E : List (List V)} (s : Sle h T E) : T.cells = [T] := by
  rcases s with ⟨rfl, rfl⟩ | ⟨id, rfl, _⟩ <;> rfl
theorem Sle.one {h : H} {T : V} {E : List (List V)} (s : Sle h T E) : T.one = true := by
  rcases s with ⟨rfl, rfl⟩ | ⟨id, rfl, _⟩ <;> rfl
/-- entries none of which is for the same -/
def Oth (t : Int) (E : List (List V)) : Prop := ∀ e ∈ E, ∃ a s n, e = ent a s n ∧ s ≠ t
theorem Oth.wid {t : Int} {E : List (List V)} (o : Oth t E) : ∀ e ∈ E, e.length = 6 := fun e he => by
  obtain ⟨a, s, n, rfl, _⟩ := o e he
  rfl
def IxI (T x1 : V) (N : Nat) (h0 : H) (m : Nat) (y0 y1 y7 y8 : V) (h : H) : Prop := ∃ i : Nat, y0 = T ∧ y1 = x1 ∧ y7 = .i .i64 N ∧ y8 = .i .i64 i ∧ i ≤ N ∧ m = N - i ∧ Ext h0 h
theorem index_none {h : H} {T : V} {E : List (List V)} {ra : Nat} {b t : Int} (s : Sle h T E) (o : Oth t E) (hl : E.length ≤ 1000) (hg : h.get ra = some ⟨false, alm b t⟩) (hlt : ra < h.nx) {Q : V → H → Prop} (q : ∀ h', Ext h h' → Q (.i .i64 (-1)) h') :
    @wF IP 160 [T, .fn 154 [.p (some (ra, 0))]] h ⟨Q⟩ := by
  have hlen := s.len
  simp (maxSteps := 2000000) (disch := omega) only [stp, ← decide_not, vEqz, eqz, vEqa, eqList, eqAtom, H.at, H.load, vBox, vNewSl, vBld, fill, Mx.part, vClear, vCopy, vBtos, source, lenV, V.isSl, Mx.room, slcut, cutOp, mkOp, bounds, natIn, H.kill, beq_self_eq_true, if_pos, if_neg, List.cons_append, List.nil_append, List.append_nil, List.length_cons, List.length_nil, List.length_set, List.take_succ_cons, List.take_zero, List.drop_succ_cons, List.drop_zero, List.take_nil, List.drop_nil, List.all_cons, List.all_nil, ite_self, if_true, if_false, ite_true, ite_false, reduceIte, reduceDIte, eq_self, ne_eq, gt_iff_lt, ge_iff_le, Option.map_some, Option.map_none, Nat.reduceAdd, Nat.reduceMul, Nat.reduceSub, Nat.reduceLT, Nat.reduceLeDiff, Nat.reduceEqDiff, Nat.reduceSucc, Int.reduceAdd, Int.reduceSub, Int.reduceMul, Int.reduceNeg, Int.reduceLT, Int.reduceLE, Int.reduceEq, Int.reduceNe, Int.reduceToNat, Int.reduceTMod, Int.reduceTDiv, Int.reduceFDiv, Int.reducePow, Nat.reduceMod, Nat.reduceAnd, Nat.reduceDiv, Nat.reducePow, f160, K160_1, K160, hlen]
  refine W160_2_inv (IxI T (.fn 154 [.p (some (ra, 0))]) E.length h) ?_ E.length _ _ _ _ _ ⟨0, rfl, rfl, rfl, rfl, by omega, by omega, Ext.refl _⟩
  rintro m _ _ _ _ h1 ⟨i, rfl, rfl, rfl, rfl, hi, rfl, e1⟩
  by_cases hlt2 : i < E.length
  · rcases s with ⟨rfl, rfl⟩ | ⟨id, rfl, g0, l0⟩
    · simp at hlt2
    have g1 := (e1.2 id l0).trans g0
    obtain ⟨a, s', n, he, hne⟩ := o _ (List.getElem_mem hlt2)
    have hcut := flat_cut o.wid i [] hlt2
    rw [List.append_nil, he] at hcut
    simp (maxSteps := 2000000) (disch := omega) only [stp, ← decide_not, vEqz, eqz, vEqa, eqList, eqAtom, H.at, H.load, vBox, vNewSl, vBld, fill, Mx.part, vClear, vCopy, vBtos, source, lenV, V.isSl, Mx.room, slcut, cutOp, mkOp, bounds, natIn, H.kill, beq_self_eq_true, if_pos, if_neg, List.cons_append, List.nil_append, List.append_nil, List.length_cons, List.length_nil, List.length_set, List.take_succ_cons, List.take_zero, List.drop_succ_cons, List.drop_zero, List.take_nil, List.drop_nil, List.all_cons, List.all_nil, ite_self, if_true, if_false, ite_true, ite_false, reduceIte, reduceDIte, eq_self, ne_eq, gt_iff_lt, ge_iff_le, Option.map_some, Option.map_none, Nat.reduceAdd, Nat.reduceMul, Nat.reduceSub, Nat.reduceLT, Nat.reduceLeDiff, Nat.reduceEqDiff, Nat.reduceSucc, Int.reduceAdd, Int.reduceSub, Int.reduceMul, Int.reduceNeg, Int.reduceLT, Int.reduceLE, Int.reduceEq, Int.reduceNe, Int.reduceToNat, Int.reduceTMod, Int.reduceTDiv, Int.reduceFDiv, Int.reducePow, Nat.reduceMod, Nat.reduceAnd, Nat.reduceDiv, Nat.reducePow, L160_2, g1, hcut]
    refine same (b := b) (t := t) ((e1.2 ra hlt).trans hg) (Nat.lt_of_lt_of_le hlt e1.1) (fun h2 e2 => ?_)
    rw [decide_eq_false hne]
    simp (maxSteps := 2000000) (disch := omega) only [stp, ← decide_not, vEqz, eqz, vEqa, eqList, eqAtom, H.at, H.load, vBox, vNewSl, vBld, fill, Mx.part, vClear, vCopy, vBtos, source, lenV, V.isSl, Mx.room, slcut, cutOp, mkOp, bounds, natIn, H.kill, beq_self_eq_true, if_pos, if_neg, List.cons_append, List.nil_append, List.append_nil, List.length_cons, List.length_nil, List.length_set, List.take_succ_cons, List.take_zero, List.drop_succ_cons, List.drop_zero, List.take_nil, List.drop_nil, List.all_cons, List.all_nil, ite_self, if_true, if_false, ite_true, ite_false, reduceIte, reduceDIte, eq_self, ne_eq, gt_iff_lt, ge_iff_le, Option.map_some, Option.map_none, Nat.reduceAdd, Nat.reduceMul, Nat.reduceSub, Nat.reduceLT, Nat.reduceLeDiff, Nat.reduceEqDiff, Nat.reduceSucc, Int.reduceAdd, Int.reduceSub, Int.reduceMul, Int.reduceNeg, Int.reduceLT, Int.reduceLE, Int.reduceEq, Int.reduceNe, Int.reduceToNat, Int.reduceTMod, Int.reduceTDiv, Int.reduceFDiv, Int.reducePow, Nat.reduceMod, Nat.reduceAnd, Nat.reduceDiv, Nat.reducePow, ]
    exact ⟨E.length - (i + 1), by omega, i + 1, rfl, rfl, rfl, rfl, by omega, rfl, e1.trans e2⟩
  · have : i = E.length := by omega
    subst this
    simp (maxSteps := 2000000) (disch := omega) only [stp, ← decide_not, vEqz, eqz, vEqa, eqList, eqAtom, H.at, H.load, vBox, vNewSl, vBld, fill, Mx.part, vClear, vCopy, vBtos, source, lenV, V.isSl, Mx.room, slcut, cutOp, mkOp, bounds, natIn, H.kill, beq_self_eq_true, if_pos, if_neg, List.cons_append, List.nil_append, List.append_nil, List.length_cons, List.length_nil, List.length_set, List.take_succ_cons, List.take_zero, List.drop_succ_cons, List.drop_zero, List.take_nil, List.drop_nil, List.all_cons, List.all_nil, ite_self, if_true, if_false, ite_true, ite_false, reduceIte, reduceDIte, eq_self, ne_eq, gt_iff_lt, ge_iff_le, Option.map_some, Option.map_none, Nat.reduceAdd, Nat.reduceMul, Nat.reduceSub, Nat.reduceLT, Nat.reduceLeDiff, Nat.reduceEqDiff, Nat.reduceSucc, Int.reduceAdd, Int.reduceSub, Int.reduceMul, Int.reduceNeg, Int.reduceLT, Int.reduceLE, Int.reduceEq, Int.reduceNe, Int.reduceToNat, Int.reduceTMod, Int.reduceTDiv, Int.reduceFDiv, Int.reducePow, Nat.reduceMod, Nat.reduceAnd, Nat.reduceDiv, Nat.reducePow, L160_2, K160_1]
    exact q h1 e1
theorem delete_none {h : H} {T : V} {E : List (List V)} {ra : Nat} {b t : Int} (s : Sle h T E) (o : Oth t E) (hl : E.length ≤ 1000) (hg : h.get ra = some ⟨false, alm b t⟩) (hlt : ra < h.nx) {Q : V → H → Prop} (q : ∀ h', Ext h h' → Q T h') :
    @wF IP 153 [T, .fn 154 [.p (some (ra, 0))]] h ⟨Q⟩ := by
  simp (maxSteps := 2000000) (disch := omega) only [stp, ← decide_not, vEqz, eqz, vEqa, eqList, eqAtom, H.at, H.load, vBox, vNewSl, vBld, fill, Mx.part, vClear, vCopy, vBtos, source, lenV, V.isSl, Mx.room, slcut, cutOp, mkOp, bounds, natIn, H.kill, beq_self_eq_true, if_pos, if_neg, List.cons_append, List.nil_append, List.append_nil, List.length_cons, List.length_nil, List.length_set, List.take_succ_cons, List.take_zero, List.drop_succ_cons, List.drop_zero, List.take_nil, List.drop_nil, List.all_cons, List.all_nil, ite_self, if_true, if_false, ite_true, ite_false, reduceIte, reduceDIte, eq_self, ne_eq, gt_iff_lt, ge_iff_le, Option.map_some, Option.map_none, Nat.reduceAdd, Nat.reduceMul, Nat.reduceSub, Nat.reduceLT, Nat.reduceLeDiff, Nat.reduceEqDiff, Nat.reduceSucc, Int.reduceAdd, Int.reduceSub, Int.reduceMul, Int.reduceNeg, Int.reduceLT, Int.reduceLE, Int.reduceEq, Int.reduceNe, Int.reduceToNat, Int.reduceTMod, Int.reduceTDiv, Int.reduceFDiv, Int.reducePow, Nat.reduceMod, Nat.reduceAnd, Nat.reduceDiv, Nat.reducePow, f153, K153_1, K153_3, K153]
  refine index_none s o hl hg hlt (fun h1 e1 => ?_)
  simp (maxSteps := 2000000) (disch := omega) only [stp, ← decide_not, vEqz, eqz, vEqa, eqList, eqAtom, H.at, H.load, vBox, vNewSl, vBld, fill, Mx.part, vClear, vCopy, vBtos, source, lenV, V.isSl, Mx.room, slcut, cutOp, mkOp, bounds, natIn, H.kill, beq_self_eq_true, if_pos, if_neg, List.cons_append, List.nil_append, List.append_nil, List.length_cons, List.length_nil, List.length_set, List.take_succ_cons, List.take_zero, List.drop_succ_cons, List.drop_zero, List.take_nil, List.drop_nil, List.all_cons, List.all_nil, ite_self, if_true, if_false, ite_true, ite_false, reduceIte, reduceDIte, eq_self, ne_eq, gt_iff_lt, ge_iff_le, Option.map_some, Option.map_none, Nat.reduceAdd, Nat.reduceMul, Nat.reduceSub, Nat.reduceLT, Nat.reduceLeDiff, Nat.reduceEqDiff, Nat.reduceSucc, Int.reduceAdd, Int.reduceSub, Int.reduceMul, Int.reduceNeg, Int.reduceLT, Int.reduceLE, Int.reduceEq, Int.reduceNe, Int.reduceToNat, Int.reduceTMod, Int.reduceTDiv, Int.reduceFDiv, Int.reducePow, Nat.reduceMod, Nat.reduceAnd, Nat.reduceDiv, Nat.reducePow, ]
  exact q h1 e1
/-- a wheel's cells -/
structure Wr (row : List V) (T : Nat → V) (now n laid : Int) : Prop where
  len : row.length = 53
  w0 : row[0]? = some (.i .i64 now)
  wc : ∀ c, 1 ≤ c → c ≤ 50 → row[c]? = some (T c)
  wn : row[51]? = some (.i .i64 n)
  wl : row[52]? = some (.i .i64 laid)
theorem lay1 {row : List V} {c : Nat} (v : V) (hc : c < row.length) : lay row c [v] = row.set c v := by
  unfold lay
  rw [List.set_eq_take_append_cons_drop, if_pos hc]
  simp
theorem lay_same {row : List V} {c : Nat} {v : V} (h : row[c]? = some v) : lay row c [v] = row := by
  obtain ⟨hc, rfl⟩ := List.getElem?_eq_some_iff.1 h
  rw [lay1 _ hc]
  exact List.set_getElem_self hc
theorem put_same {h : H} {id : Nat} {o : O} (hg : h.get id = some o) : Ext h (h.put id (some o)) := by
  refine ⟨by simp, fun j hj => ?_⟩
  rw [H.get_put]
  by_cases e : j = id
  · rw [if_pos e, e, hg]
  · rw [if_neg e]
theorem without_none {h : H} {wr : Nat} {row : List V} {T : Nat → V} {E : List (List V)} {c : Nat} {now n laid b t : Int} (hw : h.get wr = some ⟨false, row⟩) (hwl : wr < h.nx) (w : Wr row T now n laid) (hn : 0 ≤ n ∧ n ≤ 1000) (hc : 1 ≤ c ∧ c ≤ 50) (s : Sle h (T c) E) (o : Oth t E) (hl : E.length ≤ 1000) {Q : V → H → Prop} (q : ∀ h', Ext h h' → Q (T c) h') :
    @wF IP 131 [.p (some (wr, 0)), T c, .agg (alm b t)] h ⟨Q⟩ := by
  have hlen := s.len
  have wn := w.wn
  have hly := lay_same w.wn
  have hrl := w.len
  unfold alm
  simp (maxSteps := 2000000) (disch := omega) only [stp, ← decide_not, vEqz, eqz, vEqa, eqList, eqAtom, H.at, H.load, vBox, vNewSl, vBld, fill, Mx.part, vClear, vCopy, vBtos, source, lenV, V.isSl, Mx.room, slcut, cutOp, mkOp, bounds, natIn, H.kill, beq_self_eq_true, if_pos, if_neg, List.cons_append, List.nil_append, List.append_nil, List.length_cons, List.length_nil, List.length_set, List.take_succ_cons, List.take_zero, List.drop_succ_cons, List.drop_zero, List.take_nil, List.drop_nil, List.all_cons, List.all_nil, ite_self, if_true, if_false, ite_true, ite_false, reduceIte, reduceDIte, eq_self, ne_eq, gt_iff_lt, ge_iff_le, Option.map_some, Option.map_none, Nat.reduceAdd, Nat.reduceMul, Nat.reduceSub, Nat.reduceLT, Nat.reduceLeDiff, Nat.reduceEqDiff, Nat.reduceSucc, Int.reduceAdd, Int.reduceSub, Int.reduceMul, Int.reduceNeg, Int.reduceLT, Int.reduceLE, Int.reduceEq, Int.reduceNe, Int.reduceToNat, Int.reduceTMod, Int.reduceTDiv, Int.reduceFDiv, Int.reducePow, Nat.reduceMod, Nat.reduceAnd, Nat.reduceDiv, Nat.reducePow, f131, K131]
  have e0 := ext_new h ⟨false, alm b t⟩
  refine delete_none (h := h.new ⟨false, alm b t⟩) (b := b) (t := t) (s.ext e0) o hl (by simp) (by simp) (fun h1 e1 => ?_)
  have e2 := e0.trans e1
  have g1 := (e2.2 wr hwl).trans hw
  simp (maxSteps := 2000000) (disch := omega) only [stp, ← decide_not, vEqz, eqz, vEqa, eqList, eqAtom, H.at, H.load, vBox, vNewSl, vBld, fill, Mx.part, vClear, vCopy, vBtos, source, lenV, V.isSl, Mx.room, slcut, cutOp, mkOp, bounds, natIn, H.kill, beq_self_eq_true, if_pos, if_neg, List.cons_append, List.nil_append, List.append_nil, List.length_cons, List.length_nil, List.length_set, List.take_succ_cons, List.take_zero, List.drop_succ_cons, List.drop_zero, List.take_nil, List.drop_nil, List.all_cons, List.all_nil, ite_self, if_true, if_false, ite_true, ite_false, reduceIte, reduceDIte, eq_self, ne_eq, gt_iff_lt, ge_iff_le, Option.map_some, Option.map_none, Nat.reduceAdd, Nat.reduceMul, Nat.reduceSub, Nat.reduceLT, Nat.reduceLeDiff, Nat.reduceEqDiff, Nat.reduceSucc, Int.reduceAdd, Int.reduceSub, Int.reduceMul, Int.reduceNeg, Int.reduceLT, Int.reduceLE, Int.reduceEq, Int.reduceNe, Int.reduceToNat, Int.reduceTMod, Int.reduceTDiv, Int.reduceFDiv, Int.reducePow, Nat.reduceMod, Nat.reduceAnd, Nat.reduceDiv, Nat.reducePow, g1, wn, hlen, hly, hrl, Int.sub_self, Int.sub_zero]
  exact q _ (e2.trans (put_same g1))
/-- a wheel -/
structure Wh (ar : Nat) (ao : O) (h : H) (wr : Nat) (T : Nat → V) (E : Nat → List (List V)) (now n laid : Int) : Prop where
  row : ∃ row, h.get wr = some ⟨false, row⟩ ∧ Wr row T now n laid
  lt : wr < h.nx
  sl : ∀ c, 1 ≤ c → c ≤ 50 → Sle h (T c) (E c)
  sz : ∀ c, 1 ≤ c → c ≤ 50 → (E c).length ≤ 1000
  wd : ∀ c, 1 ≤ c → c ≤ 50 → ∀ e ∈ E c, e.length = 6
  kp : h.get ar = some ao ∧ ar < h.nx ∧ ar ≠ wr ∧ ∀ c m k, 1 ≤ c → c ≤ 50 → T c ≠ .sl ar 0 m k
  sep : ∀ c id m k, 1 ≤ c → c ≤ 50 → T c = .sl id 0 m k → id ≠ wr
  inj : ∀ c c' id m k m' k', 1 ≤ c → c ≤ 50 → 1 ≤ c' → c' ≤ 50 → T c = .sl id 0 m k → T c' = .sl id 0 m' k' → c = c'
theorem Wh.ext {ar : Nat} {ao : O} {h h' : H} {wr : Nat} {T : Nat → V} {E : Nat → List (List V)} {now n laid : Int} (w : Wh ar ao h wr T E now n laid) (e : Ext h h') : Wh ar ao h' wr T E now n laid := by
  obtain ⟨row, h1, h2⟩ := w.row
  exact ⟨⟨row, (e.2 _ w.lt).trans h1, h2⟩, Nat.lt_of_lt_of_le w.lt e.1, fun c h1 h2 => (w.sl c h1 h2).ext e, w.sz, w.wd, ⟨(e.2 _ w.kp.2.1).trans w.kp.1, Nat.lt_of_lt_of_le w.kp.2.1 e.1, w.kp.2.2⟩, w.sep, w.inj⟩
def DrJ (h0 : H) (wr al L : Nat) (m : Nat) (x0 x3 x4 x26 x29 : V) (h : H) : Prop := ∃ k : Nat, x0 = .p (some (wr, 0)) ∧ x3 = .p (some (al, 0)) ∧ x4 = .i .i64 L ∧ x26 = .i .i64 L ∧ x29 = .i .i64 k ∧ k ≤ 16 ∧ m = 16 - k ∧ Ext h0 h
def DrI (h0 : H) (wr al : Nat) (m : Nat) (x0 x3 x26 : V) (h : H) : Prop := ∃ L : Nat, x0 = .p (some (wr, 0)) ∧ x3 = .p (some (al, 0)) ∧ x26 = .i .i64 L ∧ L ≤ 3 ∧ m = 3 - L ∧ Ext h0 h
theorem drop_none {ar : Nat} {ao : O} {h : H} {wr : Nat} {T : Nat → V} {E : Nat → List (List V)} {now n laid b t : Int} (w : Wh ar ao h wr T E now n laid) (hn : 0 ≤ n ∧ n ≤ 1000) (o : ∀ c, 1 ≤ c → c ≤ 50 → Oth t (E c)) {Q : V → H → Prop} (q : ∀ h', Ext h h' → Q (.tup []) h') :
    @wF IP 93 [.p (some (wr, 0)), .agg (alm b t)] h ⟨Q⟩ := by
  obtain ⟨row, g0, wk⟩ := w.row
  have hrl := wk.len
  have c50 := wk.wc 50 (by omega) (by omega)
  have c49 := wk.wc 49 (by omega) (by omega)
  have ly50 := lay_same c50
  have ly49 := lay_same c49
  have q50 := (w.sl 50 (by omega) (by omega)).cells
  have q49 := (w.sl 49 (by omega) (by omega)).cells
  have p50 := (w.sl 50 (by omega) (by omega)).one
  have p49 := (w.sl 49 (by omega) (by omega)).one
  have hwl := w.lt
  unfold alm
  simp (maxSteps := 2000000) (disch := omega) only [stp, ← decide_not, vEqz, eqz, vEqa, eqList, eqAtom, H.at, H.load, vBox, vNewSl, vBld, fill, Mx.part, vClear, vCopy, vBtos, source, lenV, V.isSl, Mx.room, slcut, cutOp, mkOp, bounds, natIn, H.kill, beq_self_eq_true, if_pos, if_neg, List.cons_append, List.nil_append, List.append_nil, List.length_cons, List.length_nil, List.length_set, List.take_succ_cons, List.take_zero, List.drop_succ_cons, List.drop_zero, List.take_nil, List.drop_nil, List.all_cons, List.all_nil, ite_self, if_true, if_false, ite_true, ite_false, reduceIte, reduceDIte, eq_self, ne_eq, gt_iff_lt, ge_iff_le, Option.map_some, Option.map_none, Nat.reduceAdd, Nat.reduceMul, Nat.reduceSub, Nat.reduceLT, Nat.reduceLeDiff, Nat.reduceEqDiff, Nat.reduceSucc, Int.reduceAdd, Int.reduceSub, Int.reduceMul, Int.reduceNeg, Int.reduceLT, Int.reduceLE, Int.reduceEq, Int.reduceNe, Int.reduceToNat, Int.reduceTMod, Int.reduceTDiv, Int.reduceFDiv, Int.reducePow, Nat.reduceMod, Nat.reduceAnd, Nat.reduceDiv, Nat.reducePow, f93, K93_2, K93, g0, c50]
  have e0 := ext_new h ⟨false, alm b t⟩
  have ga0 : (h.new ⟨false, alm b t⟩).get h.nx = some ⟨false, alm b t⟩ := by simp
  refine without_none (row := row) (T := T) (c := 50) (b := b) (t := t) ((e0.2 _ hwl).trans g0) (Nat.lt_of_lt_of_le hwl e0.1) wk hn (by omega) ((w.sl 50 (by omega) (by omega)).ext e0) (o 50 (by omega) (by omega)) (w.sz 50 (by omega) (by omega)) (fun h1 e1 => ?_)
  have E1 := e0.trans e1
  have g1 := (E1.2 wr hwl).trans g0
  have ga1 := (e1.2 h.nx (by simp)).trans ga0
  have hal : h.nx < h1.nx := by have := e1.1; simp at this; omega
  unfold alm at ga1
  have hne : wr ≠ h.nx := by omega
  simp (maxSteps := 2000000) (disch := omega) only [stp, ← decide_not, vEqz, eqz, vEqa, eqList, eqAtom, H.at, H.load, vBox, vNewSl, vBld, fill, Mx.part, vClear, vCopy, vBtos, source, lenV, V.isSl, Mx.room, slcut, cutOp, mkOp, bounds, natIn, H.kill, beq_self_eq_true, if_pos, if_neg, List.cons_append, List.nil_append, List.append_nil, List.length_cons, List.length_nil, List.length_set, List.take_succ_cons, List.take_zero, List.drop_succ_cons, List.drop_zero, List.take_nil, List.drop_nil, List.all_cons, List.all_nil, ite_self, if_true, if_false, ite_true, ite_false, reduceIte, reduceDIte, eq_self, ne_eq, gt_iff_lt, ge_iff_le, Option.map_some, Option.map_none, Nat.reduceAdd, Nat.reduceMul, Nat.reduceSub, Nat.reduceLT, Nat.reduceLeDiff, Nat.reduceEqDiff, Nat.reduceSucc, Int.reduceAdd, Int.reduceSub, Int.reduceMul, Int.reduceNeg, Int.reduceLT, Int.reduceLE, Int.reduceEq, Int.reduceNe, Int.reduceToNat, Int.reduceTMod, Int.reduceTDiv, Int.reduceFDiv, Int.reducePow, Nat.reduceMod, Nat.reduceAnd, Nat.reduceDiv, Nat.reducePow, g1, ga1, c49, ly50, hrl, hne, q50, p50]
  have e2 := put_same g1
  have E2 := E1.trans e2
  have g2 := (E2.2 wr hwl).trans g0
  have ga2 := (e2.2 h.nx hal).trans ga1
  refine without_none (row := row) (T := T) (c := 49) (b := b) (t := t) g2 (Nat.lt_of_lt_of_le hwl E2.1) wk hn (by omega) ((w.sl 49 (by omega) (by omega)).ext E2) (o 49 (by omega) (by omega)) (w.sz 49 (by omega) (by omega)) (fun h3 e3 => ?_)
  have E3 := E2.trans e3
  have g3 := (E3.2 wr hwl).trans g0
  have hal3 : h.nx < h3.nx := by have := e3.1; simp at this; omega
  have ga3 := (e3.2 h.nx (by simpa using hal)).trans ga2
  simp (maxSteps := 2000000) (disch := omega) only [stp, ← decide_not, vEqz, eqz, vEqa, eqList, eqAtom, H.at, H.load, vBox, vNewSl, vBld, fill, Mx.part, vClear, vCopy, vBtos, source, lenV, V.isSl, Mx.room, slcut, cutOp, mkOp, bounds, natIn, H.kill, beq_self_eq_true, if_pos, if_neg, List.cons_append, List.nil_append, List.append_nil, List.length_cons, List.length_nil, List.length_set, List.take_succ_cons, List.take_zero, List.drop_succ_cons, List.drop_zero, List.take_nil, List.drop_nil, List.all_cons, List.all_nil, ite_self, if_true, if_false, ite_true, ite_false, reduceIte, reduceDIte, eq_self, ne_eq, gt_iff_lt, ge_iff_le, Option.map_some, Option.map_none, Nat.reduceAdd, Nat.reduceMul, Nat.reduceSub, Nat.reduceLT, Nat.reduceLeDiff, Nat.reduceEqDiff, Nat.reduceSucc, Int.reduceAdd, Int.reduceSub, Int.reduceMul, Int.reduceNeg, Int.reduceLT, Int.reduceLE, Int.reduceEq, Int.reduceNe, Int.reduceToNat, Int.reduceTMod, Int.reduceTDiv, Int.reduceFDiv, Int.reducePow, Nat.reduceMod, Nat.reduceAnd, Nat.reduceDiv, Nat.reducePow, g3, ly49, hrl, q49, p49]
  have e4 := put_same g3
  have E4 := E3.trans e4
  have ga4 := (e4.2 h.nx hal3).trans ga3
  have hal4 : h.nx < (h3.put wr (some ⟨false, row⟩)).nx := by simpa using hal3
  generalize h3.put wr (some ⟨false, row⟩) = h4 at E4 ga4 hal4
  refine W93_1_inv (DrI h4 wr h.nx) ?_ 3 _ _ _ _ ⟨0, rfl, rfl, rfl, by omega, by omega, Ext.refl _⟩
  rintro m _ _ _ h5 ⟨L, rfl, rfl, rfl, hL, rfl, e5⟩
  by_cases hL3 : L < 3
  · simp (maxSteps := 2000000) (disch := omega) only [stp, ← decide_not, vEqz, eqz, vEqa, eqList, eqAtom, H.at, H.load, vBox, vNewSl, vBld, fill, Mx.part, vClear, vCopy, vBtos, source, lenV, V.isSl, Mx.room, slcut, cutOp, mkOp, bounds, natIn, H.kill, beq_self_eq_true, if_pos, if_neg, List.cons_append, List.nil_append, List.append_nil, List.length_cons, List.length_nil, List.length_set, List.take_succ_cons, List.take_zero, List.drop_succ_cons, List.drop_zero, List.take_nil, List.drop_nil, List.all_cons, List.all_nil, ite_self, if_true, if_false, ite_true, ite_false, reduceIte, reduceDIte, eq_self, ne_eq, gt_iff_lt, ge_iff_le, Option.map_some, Option.map_none, Nat.reduceAdd, Nat.reduceMul, Nat.reduceSub, Nat.reduceLT, Nat.reduceLeDiff, Nat.reduceEqDiff, Nat.reduceSucc, Int.reduceAdd, Int.reduceSub, Int.reduceMul, Int.reduceNeg, Int.reduceLT, Int.reduceLE, Int.reduceEq, Int.reduceNe, Int.reduceToNat, Int.reduceTMod, Int.reduceTDiv, Int.reduceFDiv, Int.reducePow, Nat.reduceMod, Nat.reduceAnd, Nat.reduceDiv, Nat.reducePow, L93_1]
    refine W93_3_inv (DrJ h4 wr h.nx L) ?_ 16 _ _ _ _ _ _ ⟨0, rfl, rfl, rfl, rfl, rfl, by omega, by omega, e5⟩
    rintro m _ _ _ _ _ h6 ⟨k, rfl, rfl, rfl, rfl, rfl, hk, rfl, e6⟩
    by_cases hk16 : k < 16
    · have E6 := E4.trans e6
      have g6 := (E6.2 wr hwl).trans g0
      have ga6 := (e6.2 h.nx hal4).trans ga4
      have hc : 1 ≤ 1 + L * 16 + k ∧ 1 + L * 16 + k ≤ 50 := by omega
      have cc := wk.wc (1 + L * 16 + k) hc.1 hc.2
      have lyc := lay_same cc
      have qc := (w.sl _ hc.1 hc.2).cells
      have pc := (w.sl _ hc.1 hc.2).one
      have hal6 := Nat.lt_of_lt_of_le hal4 e6.1
      simp (maxSteps := 2000000) (disch := omega) only [stp, ← decide_not, vEqz, eqz, vEqa, eqList, eqAtom, H.at, H.load, vBox, vNewSl, vBld, fill, Mx.part, vClear, vCopy, vBtos, source, lenV, V.isSl, Mx.room, slcut, cutOp, mkOp, bounds, natIn, H.kill, beq_self_eq_true, if_pos, if_neg, List.cons_append, List.nil_append, List.append_nil, List.length_cons, List.length_nil, List.length_set, List.take_succ_cons, List.take_zero, List.drop_succ_cons, List.drop_zero, List.take_nil, List.drop_nil, List.all_cons, List.all_nil, ite_self, if_true, if_false, ite_true, ite_false, reduceIte, reduceDIte, eq_self, ne_eq, gt_iff_lt, ge_iff_le, Option.map_some, Option.map_none, Nat.reduceAdd, Nat.reduceMul, Nat.reduceSub, Nat.reduceLT, Nat.reduceLeDiff, Nat.reduceEqDiff, Nat.reduceSucc, Int.reduceAdd, Int.reduceSub, Int.reduceMul, Int.reduceNeg, Int.reduceLT, Int.reduceLE, Int.reduceEq, Int.reduceNe, Int.reduceToNat, Int.reduceTMod, Int.reduceTDiv, Int.reduceFDiv, Int.reducePow, Nat.reduceMod, Nat.reduceAnd, Nat.reduceDiv, Nat.reducePow, L93_3, g6, ga6, cc]
      refine without_none (row := row) (T := T) (c := 1 + L * 16 + k) (b := b) (t := t) g6 (Nat.lt_of_lt_of_le hwl E6.1) wk hn hc ((w.sl _ hc.1 hc.2).ext E6) (o _ hc.1 hc.2) (w.sz _ hc.1 hc.2) (fun h7 e7 => ?_)
      have g7 := (e7.2 wr (Nat.lt_of_lt_of_le hwl E6.1)).trans g6
      simp (maxSteps := 2000000) (disch := omega) only [stp, ← decide_not, vEqz, eqz, vEqa, eqList, eqAtom, H.at, H.load, vBox, vNewSl, vBld, fill, Mx.part, vClear, vCopy, vBtos, source, lenV, V.isSl, Mx.room, slcut, cutOp, mkOp, bounds, natIn, H.kill, beq_self_eq_true, if_pos, if_neg, List.cons_append, List.nil_append, List.append_nil, List.length_cons, List.length_nil, List.length_set, List.take_succ_cons, List.take_zero, List.drop_succ_cons, List.drop_zero, List.take_nil, List.drop_nil, List.all_cons, List.all_nil, ite_self, if_true, if_false, ite_true, ite_false, reduceIte, reduceDIte, eq_self, ne_eq, gt_iff_lt, ge_iff_le, Option.map_some, Option.map_none, Nat.reduceAdd, Nat.reduceMul, Nat.reduceSub, Nat.reduceLT, Nat.reduceLeDiff, Nat.reduceEqDiff, Nat.reduceSucc, Int.reduceAdd, Int.reduceSub, Int.reduceMul, Int.reduceNeg, Int.reduceLT, Int.reduceLE, Int.reduceEq, Int.reduceNe, Int.reduceToNat, Int.reduceTMod, Int.reduceTDiv, Int.reduceFDiv, Int.reducePow, Nat.reduceMod, Nat.reduceAnd, Nat.reduceDiv, Nat.reducePow, g7, lyc, hrl, qc, pc]
      exact ⟨16 - (k + 1), by omega, k + 1, rfl, rfl, rfl, rfl, rfl, by omega, rfl, e6.trans (e7.trans (put_same g7))⟩
    · have : k = 16 := by omega
      subst this
      simp (maxSteps := 2000000) (disch := omega) only [stp, ← decide_not, vEqz, eqz, vEqa, eqList, eqAtom, H.at, H.load, vBox, vNewSl, vBld, fill, Mx.part, vClear, vCopy, vBtos, source, lenV, V.isSl, Mx.room, slcut, cutOp, mkOp, bounds, natIn, H.kill, beq_self_eq_true, if_pos, if_neg, List.cons_append, List.nil_append, List.append_nil, List.length_cons, List.length_nil, List.length_set, List.take_succ_cons, List.take_zero, List.drop_succ_cons, List.drop_zero, List.take_nil, List.drop_nil, List.all_cons, List.all_nil, ite_self, if_true, if_false, ite_true, ite_false, reduceIte, reduceDIte, eq_self, ne_eq, gt_iff_lt, ge_iff_le, Option.map_some, Option.map_none, Nat.reduceAdd, Nat.reduceMul, Nat.reduceSub, Nat.reduceLT, Nat.reduceLeDiff, Nat.reduceEqDiff, Nat.reduceSucc, Int.reduceAdd, Int.reduceSub, Int.reduceMul, Int.reduceNeg, Int.reduceLT, Int.reduceLE, Int.reduceEq, Int.reduceNe, Int.reduceToNat, Int.reduceTMod, Int.reduceTDiv, Int.reduceFDiv, Int.reducePow, Nat.reduceMod, Nat.reduceAnd, Nat.reduceDiv, Nat.reducePow, L93_3, K93_2]
      exact ⟨3 - (L + 1), by omega, L + 1, rfl, rfl, rfl, by omega, rfl, e6⟩
  · have : L = 3 := by omega
    subst this
    simp (maxSteps := 2000000) (disch := omega) only [stp, ← decide_not, vEqz, eqz, vEqa, eqList, eqAtom, H.at, H.load, vBox, vNewSl, vBld, fill, Mx.part, vClear, vCopy, vBtos, source, lenV, V.isSl, Mx.room, slcut, cutOp, mkOp, bounds, natIn, H.kill, beq_self_eq_true, if_pos, if_neg, List.cons_append, List.nil_append, List.append_nil, List.length_cons, List.length_nil, List.length_set, List.take_succ_cons, List.take_zero, List.drop_succ_cons, List.drop_zero, List.take_nil, List.drop_nil, List.all_cons, List.all_nil, ite_self, if_true, if_false, ite_true, ite_false, reduceIte, reduceDIte, eq_self, ne_eq, gt_iff_lt, ge_iff_le, Option.map_some, Option.map_none, Nat.reduceAdd, Nat.reduceMul, Nat.reduceSub, Nat.reduceLT, Nat.reduceLeDiff, Nat.reduceEqDiff, Nat.reduceSucc, Int.reduceAdd, Int.reduceSub, Int.reduceMul, Int.reduceNeg, Int.reduceLT, Int.reduceLE, Int.reduceEq, Int.reduceNe, Int.reduceToNat, Int.reduceTMod, Int.reduceTDiv, Int.reduceFDiv, Int.reducePow, Nat.reduceMod, Nat.reduceAnd, Nat.reduceDiv, Nat.reducePow, L93_1]
    exact q h5 (E4.trans e5)
theorem sh0 : bin .shl (.i .i64 1) (.i .i64 0) = some (.i .i64 1) := by kernel_rfl
theorem sh4 : bin .shl (.i .i64 1) (.i .i64 4) = some (.i .i64 16) := by kernel_rfl
theorem sh8 : bin .shl (.i .i64 1) (.i .i64 8) = some (.i .i64 256) := by kernel_rfl
theorem sh12 : bin .shl (.i .i64 1) (.i .i64 12) = some (.i .i64 4096) := by kernel_rfl
/-- the level of what is so far off -/
def lv (off : Int) : Nat := if off < 16 then 0 else if off < 256 then 1 else if off < 4096 then 2 else 3
theorem level {off : Int} {h : H} {Q : V → H → Prop} (q : Q (.i .i64 (lv off)) h) : @wF IP 132 [.i .i64 off] h ⟨Q⟩ := by
  simp (maxSteps := 2000000) (disch := omega) only [stp, ← decide_not, vEqz, eqz, vEqa, eqList, eqAtom, H.at, H.load, vBox, vNewSl, vBld, fill, Mx.part, vClear, vCopy, vBtos, source, lenV, V.isSl, Mx.room, slcut, cutOp, mkOp, bounds, natIn, H.kill, beq_self_eq_true, if_pos, if_neg, List.cons_append, List.nil_append, List.append_nil, List.length_cons, List.length_nil, List.length_set, List.take_succ_cons, List.take_zero, List.drop_succ_cons, List.drop_zero, List.take_nil, List.drop_nil, List.all_cons, List.all_nil, ite_self, if_true, if_false, ite_true, ite_false, reduceIte, reduceDIte, eq_self, ne_eq, gt_iff_lt, ge_iff_le, Option.map_some, Option.map_none, Nat.reduceAdd, Nat.reduceMul, Nat.reduceSub, Nat.reduceLT, Nat.reduceLeDiff, Nat.reduceEqDiff, Nat.reduceSucc, Int.reduceAdd, Int.reduceSub, Int.reduceMul, Int.reduceNeg, Int.reduceLT, Int.reduceLE, Int.reduceEq, Int.reduceNe, Int.reduceToNat, Int.reduceTMod, Int.reduceTDiv, Int.reduceFDiv, Int.reducePow, Nat.reduceMod, Nat.reduceAnd, Nat.reduceDiv, Nat.reducePow, f132, K132_1, K132_3, K132_4, K132_8, K132]
  unfold lv at q
  by_cases h1 : off < 16
  · rw [if_pos h1] at q
    simp (maxSteps := 2000000) (disch := omega) only [stp, ← decide_not, vEqz, eqz, vEqa, eqList, eqAtom, H.at, H.load, vBox, vNewSl, vBld, fill, Mx.part, vClear, vCopy, vBtos, source, lenV, V.isSl, Mx.room, slcut, cutOp, mkOp, bounds, natIn, H.kill, beq_self_eq_true, if_pos, if_neg, List.cons_append, List.nil_append, List.append_nil, List.length_cons, List.length_nil, List.length_set, List.take_succ_cons, List.take_zero, List.drop_succ_cons, List.drop_zero, List.take_nil, List.drop_nil, List.all_cons, List.all_nil, ite_self, if_true, if_false, ite_true, ite_false, reduceIte, reduceDIte, eq_self, ne_eq, gt_iff_lt, ge_iff_le, Option.map_some, Option.map_none, Nat.reduceAdd, Nat.reduceMul, Nat.reduceSub, Nat.reduceLT, Nat.reduceLeDiff, Nat.reduceEqDiff, Nat.reduceSucc, Int.reduceAdd, Int.reduceSub, Int.reduceMul, Int.reduceNeg, Int.reduceLT, Int.reduceLE, Int.reduceEq, Int.reduceNe, Int.reduceToNat, Int.reduceTMod, Int.reduceTDiv, Int.reduceFDiv, Int.reducePow, Nat.reduceMod, Nat.reduceAnd, Nat.reduceDiv, Nat.reducePow, W132_2_eq, L132_2, f129, K129, sh4, K132_1, K132_3, K132_4, K132_8, K132]
    exact q
  · rw [if_neg h1] at q
    by_cases h2 : off < 256
    · rw [if_pos h2] at q
      rw [W132_2_eq]
      simp (maxSteps := 2000000) (disch := omega) only [stp, ← decide_not, vEqz, eqz, vEqa, eqList, eqAtom, H.at, H.load, vBox, vNewSl, vBld, fill, Mx.part, vClear, vCopy, vBtos, source, lenV, V.isSl, Mx.room, slcut, cutOp, mkOp, bounds, natIn, H.kill, beq_self_eq_true, if_pos, if_neg, List.cons_append, List.nil_append, List.append_nil, List.length_cons, List.length_nil, List.length_set, List.take_succ_cons, List.take_zero, List.drop_succ_cons, List.drop_zero, List.take_nil, List.drop_nil, List.all_cons, List.all_nil, ite_self, if_true, if_false, ite_true, ite_false, reduceIte, reduceDIte, eq_self, ne_eq, gt_iff_lt, ge_iff_le, Option.map_some, Option.map_none, Nat.reduceAdd, Nat.reduceMul, Nat.reduceSub, Nat.reduceLT, Nat.reduceLeDiff, Nat.reduceEqDiff, Nat.reduceSucc, Int.reduceAdd, Int.reduceSub, Int.reduceMul, Int.reduceNeg, Int.reduceLT, Int.reduceLE, Int.reduceEq, Int.reduceNe, Int.reduceToNat, Int.reduceTMod, Int.reduceTDiv, Int.reduceFDiv, Int.reducePow, Nat.reduceMod, Nat.reduceAnd, Nat.reduceDiv, Nat.reducePow, L132_2, f129, K129, sh4, K132_1, K132_3, K132_4, K132_8, K132]
      rw [W132_2_eq]
      simp (maxSteps := 2000000) (disch := omega) only [stp, ← decide_not, vEqz, eqz, vEqa, eqList, eqAtom, H.at, H.load, vBox, vNewSl, vBld, fill, Mx.part, vClear, vCopy, vBtos, source, lenV, V.isSl, Mx.room, slcut, cutOp, mkOp, bounds, natIn, H.kill, beq_self_eq_true, if_pos, if_neg, List.cons_append, List.nil_append, List.append_nil, List.length_cons, List.length_nil, List.length_set, List.take_succ_cons, List.take_zero, List.drop_succ_cons, List.drop_zero, List.take_nil, List.drop_nil, List.all_cons, List.all_nil, ite_self, if_true, if_false, ite_true, ite_false, reduceIte, reduceDIte, eq_self, ne_eq, gt_iff_lt, ge_iff_le, Option.map_some, Option.map_none, Nat.reduceAdd, Nat.reduceMul, Nat.reduceSub, Nat.reduceLT, Nat.reduceLeDiff, Nat.reduceEqDiff, Nat.reduceSucc, Int.reduceAdd, Int.reduceSub, Int.reduceMul, Int.reduceNeg, Int.reduceLT, Int.reduceLE, Int.reduceEq, Int.reduceNe, Int.reduceToNat, Int.reduceTMod, Int.reduceTDiv, Int.reduceFDiv, Int.reducePow, Nat.reduceMod, Nat.reduceAnd, Nat.reduceDiv, Nat.reducePow, L132_2, f129, K129, sh8, K132_1, K132_3, K132_4, K132_8, K132]
      exact q
    · rw [if_neg h2] at q
      rw [W132_2_eq]
      simp (maxSteps := 2000000) (disch := omega) only [stp, ← decide_not, vEqz, eqz, vEqa, eqList, eqAtom, H.at, H.load, vBox, vNewSl, vBld, fill, Mx.part, vClear, vCopy, vBtos, source, lenV, V.isSl, Mx.room, slcut, cutOp, mkOp, bounds, natIn, H.kill, beq_self_eq_true, if_pos, if_neg, List.cons_append, List.nil_append, List.append_nil, List.length_cons, List.length_nil, List.length_set, List.take_succ_cons, List.take_zero, List.drop_succ_cons, List.drop_zero, List.take_nil, List.drop_nil, List.all_cons, List.all_nil, ite_self, if_true, if_false, ite_true, ite_false, reduceIte, reduceDIte, eq_self, ne_eq, gt_iff_lt, ge_iff_le, Option.map_some, Option.map_none, Nat.reduceAdd, Nat.reduceMul, Nat.reduceSub, Nat.reduceLT, Nat.reduceLeDiff, Nat.reduceEqDiff, Nat.reduceSucc, Int.reduceAdd, Int.reduceSub, Int.reduceMul, Int.reduceNeg, Int.reduceLT, Int.reduceLE, Int.reduceEq, Int.reduceNe, Int.reduceToNat, Int.reduceTMod, Int.reduceTDiv, Int.reduceFDiv, Int.reducePow, Nat.reduceMod, Nat.reduceAnd, Nat.reduceDiv, Nat.reducePow, L132_2, f129, K129, sh4, K132_1, K132_3, K132_4, K132_8, K132]
      rw [W132_2_eq]
      simp (maxSteps := 2000000) (disch := omega) only [stp, ← decide_not, vEqz, eqz, vEqa, eqList, eqAtom, H.at, H.load, vBox, vNewSl, vBld, fill, Mx.part, vClear, vCopy, vBtos, source, lenV, V.isSl, Mx.room, slcut, cutOp, mkOp, bounds, natIn, H.kill, beq_self_eq_true, if_pos, if_neg, List.cons_append, List.nil_append, List.append_nil, List.length_cons, List.length_nil, List.length_set, List.take_succ_cons, List.take_zero, List.drop_succ_cons, List.drop_zero, List.take_nil, List.drop_nil, List.all_cons, List.all_nil, ite_self, if_true, if_false, ite_true, ite_false, reduceIte, reduceDIte, eq_self, ne_eq, gt_iff_lt, ge_iff_le, Option.map_some, Option.map_none, Nat.reduceAdd, Nat.reduceMul, Nat.reduceSub, Nat.reduceLT, Nat.reduceLeDiff, Nat.reduceEqDiff, Nat.reduceSucc, Int.reduceAdd, Int.reduceSub, Int.reduceMul, Int.reduceNeg, Int.reduceLT, Int.reduceLE, Int.reduceEq, Int.reduceNe, Int.reduceToNat, Int.reduceTMod, Int.reduceTDiv, Int.reduceFDiv, Int.reducePow, Nat.reduceMod, Nat.reduceAnd, Nat.reduceDiv, Nat.reducePow, L132_2, f129, K129, sh8, K132_1, K132_3, K132_4, K132_8, K132]
      rw [W132_2_eq]
      by_cases h3 : off < 4096
      · rw [if_pos h3] at q
        simp (maxSteps := 2000000) (disch := omega) only [stp, ← decide_not, vEqz, eqz, vEqa, eqList, eqAtom, H.at, H.load, vBox, vNewSl, vBld, fill, Mx.part, vClear, vCopy, vBtos, source, lenV, V.isSl, Mx.room, slcut, cutOp, mkOp, bounds, natIn, H.kill, beq_self_eq_true, if_pos, if_neg, List.cons_append, List.nil_append, List.append_nil, List.length_cons, List.length_nil, List.length_set, List.take_succ_cons, List.take_zero, List.drop_succ_cons, List.drop_zero, List.take_nil, List.drop_nil, List.all_cons, List.all_nil, ite_self, if_true, if_false, ite_true, ite_false, reduceIte, reduceDIte, eq_self, ne_eq, gt_iff_lt, ge_iff_le, Option.map_some, Option.map_none, Nat.reduceAdd, Nat.reduceMul, Nat.reduceSub, Nat.reduceLT, Nat.reduceLeDiff, Nat.reduceEqDiff, Nat.reduceSucc, Int.reduceAdd, Int.reduceSub, Int.reduceMul, Int.reduceNeg, Int.reduceLT, Int.reduceLE, Int.reduceEq, Int.reduceNe, Int.reduceToNat, Int.reduceTMod, Int.reduceTDiv, Int.reduceFDiv, Int.reducePow, Nat.reduceMod, Nat.reduceAnd, Nat.reduceDiv, Nat.reducePow, L132_2, f129, K129, sh12, K132_1, K132_3, K132_4, K132_8, K132]
        exact q
      · rw [if_neg h3] at q
        simp (maxSteps := 2000000) (disch := omega) only [stp, ← decide_not, vEqz, eqz, vEqa, eqList, eqAtom, H.at, H.load, vBox, vNewSl, vBld, fill, Mx.part, vClear, vCopy, vBtos, source, lenV, V.isSl, Mx.room, slcut, cutOp, mkOp, bounds, natIn, H.kill, beq_self_eq_true, if_pos, if_neg, List.cons_append, List.nil_append, List.append_nil, List.length_cons, List.length_nil, List.length_set, List.take_succ_cons, List.take_zero, List.drop_succ_cons, List.drop_zero, List.take_nil, List.drop_nil, List.all_cons, List.all_nil, ite_self, if_true, if_false, ite_true, ite_false, reduceIte, reduceDIte, eq_self, ne_eq, gt_iff_lt, ge_iff_le, Option.map_some, Option.map_none, Nat.reduceAdd, Nat.reduceMul, Nat.reduceSub, Nat.reduceLT, Nat.reduceLeDiff, Nat.reduceEqDiff, Nat.reduceSucc, Int.reduceAdd, Int.reduceSub, Int.reduceMul, Int.reduceNeg, Int.reduceLT, Int.reduceLE, Int.reduceEq, Int.reduceNe, Int.reduceToNat, Int.reduceTMod, Int.reduceTDiv, Int.reduceFDiv, Int.reducePow, Nat.reduceMod, Nat.reduceAnd, Nat.reduceDiv, Nat.reducePow, L132_2, f129, K129, sh12, K132_1, K132_3, K132_4, K132_8, K132]
        rw [W132_2_eq]
        simp (maxSteps := 2000000) (disch := omega) only [stp, ← decide_not, vEqz, eqz, vEqa, eqList, eqAtom, H.at, H.load, vBox, vNewSl, vBld, fill, Mx.part, vClear, vCopy, vBtos, source, lenV, V.isSl, Mx.room, slcut, cutOp, mkOp, bounds, natIn, H.kill, beq_self_eq_true, if_pos, if_neg, List.cons_append, List.nil_append, List.append_nil, List.length_cons, List.length_nil, List.length_set, List.take_succ_cons, List.take_zero, List.drop_succ_cons, List.drop_zero, List.take_nil, List.drop_nil, List.all_cons, List.all_nil, ite_self, if_true, if_false, ite_true, ite_false, reduceIte, reduceDIte, eq_self, ne_eq, gt_iff_lt, ge_iff_le, Option.map_some, Option.map_none, Nat.reduceAdd, Nat.reduceMul, Nat.reduceSub, Nat.reduceLT, Nat.reduceLeDiff, Nat.reduceEqDiff, Nat.reduceSucc, Int.reduceAdd, Int.reduceSub, Int.reduceMul, Int.reduceNeg, Int.reduceLT, Int.reduceLE, Int.reduceEq, Int.reduceNe, Int.reduceToNat, Int.reduceTMod, Int.reduceTDiv, Int.reduceFDiv, Int.reducePow, Nat.reduceMod, Nat.reduceAnd, Nat.reduceDiv, Nat.reducePow, L132_2, f129, K129, K132_1, K132_3, K132_4, K132_8, K132]
        exact q
theorem tslot {a wd : Int} (ha : 0 ≤ a ∧ a ≤ 1099511627776) (hw : wd = 1 ∨ wd = 16 ∨ wd = 256) {h : H} {Q : V → H → Prop} (q : Q (.i .i64 (a / wd % 16)) h) : @wF IP 130 [.i .i64 a, .i .i64 wd, .i .i64 16] h ⟨Q⟩ := by
  have e1 : ∀ x y : Int, 0 ≤ x → x.tdiv y = x / y := fun x y hx => Int.tdiv_eq_ediv_of_nonneg hx
  have e2 : ∀ x y : Int, 0 ≤ x → x.tmod y = x % y := fun x y hx => Int.tmod_eq_emod_of_nonneg hx
  rcases hw with rfl | rfl | rfl
  · have hb : 0 ≤ a / 1 ∧ a / 1 ≤ 1099511627776 := by omega
    have e3 := e2 (a / 1) 16 hb.1
    simp (maxSteps := 2000000) (disch := omega) only [stp, ← decide_not, vEqz, eqz, vEqa, eqList, eqAtom, H.at, H.load, vBox, vNewSl, vBld, fill, Mx.part, vClear, vCopy, vBtos, source, lenV, V.isSl, Mx.room, slcut, cutOp, mkOp, bounds, natIn, H.kill, beq_self_eq_true, if_pos, if_neg, List.cons_append, List.nil_append, List.append_nil, List.length_cons, List.length_nil, List.length_set, List.take_succ_cons, List.take_zero, List.drop_succ_cons, List.drop_zero, List.take_nil, List.drop_nil, List.all_cons, List.all_nil, ite_self, if_true, if_false, ite_true, ite_false, reduceIte, reduceDIte, eq_self, ne_eq, gt_iff_lt, ge_iff_le, Option.map_some, Option.map_none, Nat.reduceAdd, Nat.reduceMul, Nat.reduceSub, Nat.reduceLT, Nat.reduceLeDiff, Nat.reduceEqDiff, Nat.reduceSucc, Int.reduceAdd, Int.reduceSub, Int.reduceMul, Int.reduceNeg, Int.reduceLT, Int.reduceLE, Int.reduceEq, Int.reduceNe, Int.reduceToNat, Int.reduceTMod, Int.reduceTDiv, Int.reduceFDiv, Int.reducePow, Nat.reduceMod, Nat.reduceAnd, Nat.reduceDiv, Nat.reducePow, f130, K130_1, K130_2, K130_6, K130, f86, K86, K130_1, K130_2, K130_6, K130, e1 a 1 ha.1, e3]
    exact q
  · have hb : 0 ≤ a / 16 ∧ a / 16 ≤ 1099511627776 := by omega
    have e3 := e2 (a / 16) 16 hb.1
    simp (maxSteps := 2000000) (disch := omega) only [stp, ← decide_not, vEqz, eqz, vEqa, eqList, eqAtom, H.at, H.load, vBox, vNewSl, vBld, fill, Mx.part, vClear, vCopy, vBtos, source, lenV, V.isSl, Mx.room, slcut, cutOp, mkOp, bounds, natIn, H.kill, beq_self_eq_true, if_pos, if_neg, List.cons_append, List.nil_append, List.append_nil, List.length_cons, List.length_nil, List.length_set, List.take_succ_cons, List.take_zero, List.drop_succ_cons, List.drop_zero, List.take_nil, List.drop_nil, List.all_cons, List.all_nil, ite_self, if_true, if_false, ite_true, ite_false, reduceIte, reduceDIte, eq_self, ne_eq, gt_iff_lt, ge_iff_le, Option.map_some, Option.map_none, Nat.reduceAdd, Nat.reduceMul, Nat.reduceSub, Nat.reduceLT, Nat.reduceLeDiff, Nat.reduceEqDiff, Nat.reduceSucc, Int.reduceAdd, Int.reduceSub, Int.reduceMul, Int.reduceNeg, Int.reduceLT, Int.reduceLE, Int.reduceEq, Int.reduceNe, Int.reduceToNat, Int.reduceTMod, Int.reduceTDiv, Int.reduceFDiv, Int.reducePow, Nat.reduceMod, Nat.reduceAnd, Nat.reduceDiv, Nat.reducePow, f130, K130_1, K130_2, K130_6, K130, f86, K86, K130_1, K130_2, K130_6, K130, e1 a 16 ha.1, e3]
    exact q
  · have hb : 0 ≤ a / 256 ∧ a / 256 ≤ 1099511627776 := by omega
    have e3 := e2 (a / 256) 16 hb.1
    simp (maxSteps := 2000000) (disch := omega) only [stp, ← decide_not, vEqz, eqz, vEqa, eqList, eqAtom, H.at, H.load, vBox, vNewSl, vBld, fill, Mx.part, vClear, vCopy, vBtos, source, lenV, V.isSl, Mx.room, slcut, cutOp, mkOp, bounds, natIn, H.kill, beq_self_eq_true, if_pos, if_neg, List.cons_append, List.nil_append, List.append_nil, List.length_cons, List.length_nil, List.length_set, List.take_succ_cons, List.take_zero, List.drop_succ_cons, List.drop_zero, List.take_nil, List.drop_nil, List.all_cons, List.all_nil, ite_self, if_true, if_false, ite_true, ite_false, reduceIte, reduceDIte, eq_self, ne_eq, gt_iff_lt, ge_iff_le, Option.map_some, Option.map_none, Nat.reduceAdd, Nat.reduceMul, Nat.reduceSub, Nat.reduceLT, Nat.reduceLeDiff, Nat.reduceEqDiff, Nat.reduceSucc, Int.reduceAdd, Int.reduceSub, Int.reduceMul, Int.reduceNeg, Int.reduceLT, Int.reduceLE, Int.reduceEq, Int.reduceNe, Int.reduceToNat, Int.reduceTMod, Int.reduceTDiv, Int.reduceFDiv, Int.reducePow, Nat.reduceMod, Nat.reduceAnd, Nat.reduceDiv, Nat.reducePow, f130, K130_1, K130_2, K130_6, K130, f86, K86, K130_1, K130_2, K130_6, K130, e1 a 256 ha.1, e3]
    exact q
theorem app_e {h : H} {T : V} {E : List (List V)} (s : Sle h T E) (hw : ∀ e ∈ E, e.length = 6) (hl : E.length ≤ 1000) {rn : Nat} {ro : Bool} {c : Cap} {r : List V} (hn : h.get rn = some ⟨ro, r⟩) (hr : r.length = 6) (h1 : r.all V.one = true) :
    ∃ h', vApp 6 48 T (.sl rn 0 1 c) h = some (.sl h.nx 0 (E.length + 1) (.op 6), h') ∧ h'.get h.nx = some ⟨false, (E ++ [r]).flatten⟩ ∧ h'.nx = h.nx + 1 ∧ ∀ id, id < h.nx → (∀ m k, T ≠ .sl id 0 m k) → h'.get id = h.get id := by
  have hsrc : source 6 h (.sl rn 0 1 c) = some r := by
    simp only [source, H.load, hn, Nat.one_mul]
    exact cut_all hr
  have hfl := flat_len hw
  unfold vApp
  simp only [hsrc, lenV]
  rcases s with ⟨rfl, rfl⟩ | ⟨id, rfl, k1, k2⟩
  · refine ⟨h.new ⟨false, r⟩, ?_, by simp, by simp, fun i h2 _ => by rw [H.get_new, if_neg (by omega)]⟩
    simp only [append1]
    rw [if_neg (by omega), if_pos ⟨by unfold room; omega, by unfold room; omega⟩]
    rfl
  · refine ⟨(h.kill id).new ⟨false, E.flatten ++ r⟩, ?_, by simp, by simp, fun i h2 h3 => ?_⟩
    · have hc : cut E.flatten 0 (E.length * 6) = some E.flatten := by
        unfold cut
        rw [if_pos (by omega), List.drop_zero, ← hfl, List.take_length]
      simp only [append1, H.load, k1, Bool.false_eq_true, if_false, h1, hc]
      rw [if_neg (by omega), if_neg (by simp), if_neg (by omega), if_pos ⟨by unfold room; omega, by unfold room; omega, trivial⟩]
    · rw [H.get_new, H.nx_kill, if_neg (by omega), H.get_kill, if_neg (by rintro rfl; exact h3 _ _ rfl)]
def upd {α : Type} (g : Nat → α) (s : Nat) (v : α) : Nat → α := fun j => if j = s then v else g j
theorem upd_at {α : Type} (g : Nat → α) (s : Nat) (v : α) : upd g s v s = v := by unfold upd; rw [if_pos rfl]
theorem upd_ne {α : Type} (g : Nat → α) {s j : Nat} (v : α) (h : j ≠ s) : upd g s v j = g j := by unfold upd; rw [if_neg h]
theorem Wr.setc {row : List V} {T : Nat → V} {now n laid : Int} (w : Wr row T now n laid) {c : Nat} (hc : 1 ≤ c ∧ c ≤ 50) (v : V) : Wr (row.set c v) (upd T c v) now n laid := by
  have hl := w.len
  refine ⟨by rw [List.length_set]; exact hl, ?_, fun j h1 h2 => ?_, ?_, ?_⟩
  · rw [List.getElem?_set, if_neg (by omega)]; exact w.w0
  · rw [List.getElem?_set]
    by_cases hj : c = j
    · subst hj; rw [if_pos rfl, if_pos (by omega), upd_at]
    · rw [if_neg hj, upd_ne _ _ (Ne.symm hj)]; exact w.wc j h1 h2
  · rw [List.getElem?_set, if_neg (by omega)]; exact w.wn
  · rw [List.getElem?_set, if_neg (by omega)]; exact w.wl
theorem Wr.setn {row : List V} {T : Nat → V} {now n laid : Int} (w : Wr row T now n laid) (n' : Int) : Wr (row.set 51 (.i .i64 n')) T now n' laid := by
  have hl := w.len
  refine ⟨by rw [List.length_set]; exact hl, ?_, fun j h1 h2 => ?_, ?_, ?_⟩
  · rw [List.getElem?_set, if_neg (by omega)]; exact w.w0
  · rw [List.getElem?_set, if_neg (by omega)]; exact w.wc j h1 h2
  · rw [List.getElem?_set, if_pos rfl, if_pos (by omega)]
  · rw [List.getElem?_set, if_neg (by omega)]; exact w.wl
theorem Wr.setl {row : List V} {T : Nat → V} {now n laid : Int} (w : Wr row T now n laid) (l' : Int) : Wr (row.set 52 (.i .i64 l')) T now n l' := by
  have hl := w.len
  refine ⟨by rw [List.length_set]; exact hl, ?_, fun j h1 h2 => ?_, ?_, ?_⟩
  · rw [List.getElem?_set, if_neg (by omega)]; exact w.w0
  · rw [List.getElem?_set, if_neg (by omega)]; exact w.wc j h1 h2
  · rw [List.getElem?_set, if_neg (by omega)]; exact w.wn
  · rw [List.getElem?_set, if_pos rfl, if_pos (by omega)]
/-- one entry more in a cell -/
theorem Wh.add {ar : Nat} {ao : O} {h h' : H} {wr : Nat} {T : Nat → V} {E : Nat → List (List V)} {now n laid : Int} (w : Wh ar ao h wr T E now n laid) {c nid : Nat} {r : List V} {row : List V} (hc : 1 ≤ c ∧ c ≤ 50) (hr : r.length = 6) (hs : (E c).length < 1000) (hnid : h.nx ≤ nid) (hnx : nid < h'.nx)
    (g1 : h'.get nid = some ⟨false, (E c ++ [r]).flatten⟩) (g2 : h'.get wr = some ⟨false, row⟩) (wk : Wr row (upd T c (.sl nid 0 ((E c).length + 1) (.op 6))) now n laid) (g3 : ∀ id, id < h.nx → id ≠ wr → (∀ m k, T c ≠ .sl id 0 m k) → h'.get id = h.get id) :
    Wh ar ao h' wr (upd T c (.sl nid 0 ((E c).length + 1) (.op 6))) (upd E c (E c ++ [r])) now n laid := by
  have hlt := w.lt
  have bel : ∀ c' id m k, 1 ≤ c' → c' ≤ 50 → T c' = .sl id 0 m k → id < h.nx := by
    intro c' id m k h1 h2 e
    rcases w.sl c' h1 h2 with ⟨e2, _⟩ | ⟨id2, e2, _, h5⟩
    · rw [e2] at e; cases e
    · rw [e2] at e; cases e; exact h5
  refine ⟨⟨row, g2, wk⟩, by omega, fun c' h1 h2 => ?_, fun c' h1 h2 => ?_, fun c' h1 h2 e he => ?_, ⟨?_, by have := w.kp.2.1; omega, w.kp.2.2.1, fun c' m k h1 h2 e => ?_⟩, fun c' id m k h1 h2 e => ?_, fun c1 c2 id m k m' k' h1 h2 h3 h4 e1 e2 => ?_⟩
  · by_cases hcc : c' = c
    · subst hcc
      rw [upd_at, upd_at]
      exact .inr ⟨nid, by simp, g1, hnx⟩
    · rw [upd_ne _ _ hcc, upd_ne _ _ hcc]
      rcases w.sl c' h1 h2 with h5 | ⟨id, e2, h5, h6⟩
      · exact .inl h5
      · refine .inr ⟨id, e2, (g3 id h6 (w.sep c' id _ _ h1 h2 e2) (fun m k e => hcc ?_)).trans h5, by omega⟩
        exact w.inj c' c id _ _ _ _ h1 h2 hc.1 hc.2 e2 e
  · by_cases hcc : c' = c
    · subst hcc; rw [upd_at, List.length_append, List.length_singleton]; omega
    · rw [upd_ne _ _ hcc]; exact w.sz c' h1 h2
  · by_cases hcc : c' = c
    · subst hcc
      rw [upd_at] at he
      simp only [List.mem_append, List.mem_singleton] at he
      rcases he with he | rfl
      · exact w.wd c' h1 h2 e he
      · exact hr
    · rw [upd_ne _ _ hcc] at he; exact w.wd c' h1 h2 e he
  · exact (g3 ar w.kp.2.1 w.kp.2.2.1 (fun m k => w.kp.2.2.2 c m k hc.1 hc.2)).trans w.kp.1
  · by_cases hcc : c' = c
    · subst hcc; rw [upd_at] at e; cases e; have := w.kp.2.1; omega
    · rw [upd_ne _ _ hcc] at e; exact w.kp.2.2.2 c' m k h1 h2 e
  · by_cases hcc : c' = c
    · subst hcc; rw [upd_at] at e; cases e; omega
    · rw [upd_ne _ _ hcc] at e; exact w.sep c' id m k h1 h2 e
  · by_cases hc1 : c1 = c
    · by_cases hc2 : c2 = c
      · rw [hc1, hc2]
      · subst hc1
        rw [upd_at] at e1
        rw [upd_ne _ _ hc2] at e2
        cases e1
        have := bel c2 _ _ _ h3 h4 e2
        omega
    · by_cases hc2 : c2 = c
      · subst hc2
        rw [upd_at] at e2
        rw [upd_ne _ _ hc1] at e1
        cases e2
        have := bel c1 _ _ _ h1 h2 e1
        omega
      · rw [upd_ne _ _ hc1] at e1
        rw [upd_ne _ _ hc2] at e2
        exact w.inj c1 c2 id m k m' k' h1 h2 h3 h4 e1 e2
def cell (a off : Int) : Nat := if off < 16 then 1 + (a / 1 % 16).toNat else if off < 256 then 17 + (a / 16 % 16).toNat else if off < 4096 then 33 + (a / 256 % 16).toNat else 49
theorem cell_in (a off : Int) : 1 ≤ cell a off ∧ cell a off ≤ 49 := by
  unfold cell
  split
  · omega
  · split
    · omega
    · split <;> omega
/-! ### a wheel with one alarm -/
def cx (a now : Int) : Nat := if a ≤ now then 50 else cell a (a - now)
theorem cx_in (a now : Int) : 1 ≤ cx a now ∧ cx a now ≤ 50 := by
  unfold cx
  have := cell_in a (a - now)
  split <;> omega
def Kw (h : H) (wr : Nat) (h' : H) : Prop := h.nx ≤ h'.nx ∧ ∀ j, j < h.nx → j ≠ wr → h'.get j = h.get j
theorem Kw.trans {h h1 h2 : H} {wr : Nat} (a : Kw h wr h1) (b : Kw h1 wr h2) : Kw h wr h2 := ⟨Nat.le_trans a.1 b.1, fun j h1 h2 => (b.2 j (Nat.lt_of_lt_of_le h1 a.1) h2).trans (a.2 j h1 h2)⟩
theorem Ext.kw {h h' : H} (e : Ext h h') (wr : Nat) : Kw h wr h' := ⟨e.1, fun j h1 _ => e.2 j h1⟩
theorem Kw.put {h h' : H} {wr : Nat} (k : Kw h wr h') (o : Option O) : Kw h wr (h'.put wr o) := ⟨by simp only [H.nx_put]; exact k.1, fun j h1 h2 => by rw [H.get_put, if_neg h2]; exact k.2 j h1 h2⟩
def nil_ : Nat → V := fun _ => .nsl
def Em (h : H) (wr : Nat) (now : Int) : Prop := ∃ row, h.get wr = some ⟨false, row⟩ ∧ Wr row nil_ now 1 1 ∧ wr < h.nx
def On (h : H) (wr : Nat) (now a : Int) (c : Nat) : Prop := ∃ row id, h.get wr = some ⟨false, row⟩ ∧ Wr row (upd nil_ c (.sl id 0 1 (.op 6))) now 1 1 ∧ wr < h.nx ∧ h.get id = some ⟨false, ent a 0 1⟩ ∧ id < h.nx ∧ id ≠ wr ∧ 1 ≤ c ∧ c ≤ 50
theorem On.ext {h h' : H} {wr c : Nat} {now a : Int} (o : On h wr now a c) (e : Ext h h') : On h' wr now a c := by
  obtain ⟨row, id, o1, o2, o3, o4, o5, o6, o7⟩ := o
  exact ⟨row, id, (e.2 _ o3).trans o1, o2, Nat.lt_of_lt_of_le o3 e.1, (e.2 _ o5).trans o4, Nat.lt_of_lt_of_le o5 e.1, o6, o7⟩
theorem Wr.cg {row : List V} {T T' : Nat → V} {now n laid : Int} (w : Wr row T now n laid) (h : ∀ c, 1 ≤ c → c ≤ 50 → T c = T' c) : Wr row T' now n laid :=
  ⟨w.len, w.w0, fun c h1 h2 => (w.wc c h1 h2).trans (by rw [h c h1 h2]), w.wn, w.wl⟩
theorem lay_em {h : H} {wr : Nat} {now a : Int} (w : Em h wr now) (hnow : 0 ≤ now) (ha : 0 ≤ a ∧ a ≤ 1099511627776) {Q : V → H → Prop} (q : ∀ h', On h' wr now a (cx a now) → Kw h wr h' → Q (.tup []) h') :
    @wF IP 94 [.p (some (wr, 0)), .agg (ent a 0 1)] h ⟨Q⟩ := by
  obtain ⟨row, g0, wk, hwl⟩ := w
  have hrl := wk.len
  have w0 := wk.w0
  have hne : wr ≠ h.nx := by omega
  have hci := cx_in a now
  obtain ⟨c, hcd⟩ : ∃ c, c = cx a now := ⟨_, rfl⟩
  rw [← hcd] at hci q
  have cc := wk.wc c (by omega) (by omega)
  unfold nil_ at cc
  have E1 := (ext_new h ⟨false, ent a 0 1⟩).trans (ext_new _ ⟨false, ent a 0 1⟩)
  obtain ⟨h2, k1, k2, k3, k4⟩ := app_e (h := (h.new ⟨false, ent a 0 1⟩).new ⟨false, ent a 0 1⟩) (T := .nsl) (E := []) (.inl ⟨rfl, rfl⟩) (fun e he => by cases he) (by simp) (rn := h.nx + 1) (ro := false) (c := .ex 1) (r := ent a 0 1) (by simp) rfl rfl
  simp only [H.nx_new, List.length_nil, Nat.zero_add] at k1 k2 k3 k4
  have hw2 : h2.get wr = some ⟨false, row⟩ := (k4 wr (by omega) (fun m k e => by cases e)).trans ((E1.2 wr hwl).trans g0)
  have kw : Kw h wr h2 := ⟨by omega, fun j h1 _ => (k4 j (by omega) (fun m k e => by cases e)).trans (E1.2 j h1)⟩
  have kq := q (h2.put wr (some ⟨false, row.set c (.sl (h.nx + 1 + 1) 0 1 (.op 6))⟩)) ⟨_, h.nx + 1 + 1, by rw [H.get_put, if_pos rfl], wk.setc (by omega) _, by simp only [H.nx_put]; omega, by rw [H.get_put, if_neg (by omega)]; simpa using k2, by simp only [H.nx_put]; omega, by omega, hci.1, hci.2⟩ (kw.put _)
  have wn2 : ∀ v, lay row c [v] = row.set c v := fun v => lay1 v (by omega)
  clear q
  unfold ent at *
  by_cases h50 : a ≤ now
  · have hc2 : c = 50 := by rw [hcd]; unfold cx; rw [if_pos h50]
    subst hc2
    simp (maxSteps := 2000000) (disch := omega) only [stp, ← decide_not, vEqz, eqz, vEqa, eqList, eqAtom, H.at, H.load, vBox, vNewSl, vBld, fill, Mx.part, vClear, vCopy, vBtos, source, lenV, V.isSl, Mx.room, slcut, cutOp, mkOp, bounds, natIn, H.kill, beq_self_eq_true, if_pos, if_neg, List.cons_append, List.nil_append, List.append_nil, List.length_cons, List.length_nil, List.length_set, List.take_succ_cons, List.take_zero, List.drop_succ_cons, List.drop_zero, List.take_nil, List.drop_nil, List.all_cons, List.all_nil, ite_self, if_true, if_false, ite_true, ite_false, reduceIte, reduceDIte, eq_self, ne_eq, gt_iff_lt, ge_iff_le, Option.map_some, Option.map_none, Nat.reduceAdd, Nat.reduceMul, Nat.reduceSub, Nat.reduceLT, Nat.reduceLeDiff, Nat.reduceEqDiff, Nat.reduceSucc, Int.reduceAdd, Int.reduceSub, Int.reduceMul, Int.reduceNeg, Int.reduceLT, Int.reduceLE, Int.reduceEq, Int.reduceNe, Int.reduceToNat, Int.reduceTMod, Int.reduceTDiv, Int.reduceFDiv, Int.reducePow, Nat.reduceMod, Nat.reduceAnd, Nat.reduceDiv, Nat.reducePow, f94, K94, g0, w0, hne, cc, k1, hw2, wn2, hrl]
    exact kq
  · have hcx : c = cell a (a - now) := by rw [hcd]; unfold cx; rw [if_neg h50]
    simp (maxSteps := 2000000) (disch := omega) only [stp, ← decide_not, vEqz, eqz, vEqa, eqList, eqAtom, H.at, H.load, vBox, vNewSl, vBld, fill, Mx.part, vClear, vCopy, vBtos, source, lenV, V.isSl, Mx.room, slcut, cutOp, mkOp, bounds, natIn, H.kill, beq_self_eq_true, if_pos, if_neg, List.cons_append, List.nil_append, List.append_nil, List.length_cons, List.length_nil, List.length_set, List.take_succ_cons, List.take_zero, List.drop_succ_cons, List.drop_zero, List.take_nil, List.drop_nil, List.all_cons, List.all_nil, ite_self, if_true, if_false, ite_true, ite_false, reduceIte, reduceDIte, eq_self, ne_eq, gt_iff_lt, ge_iff_le, Option.map_some, Option.map_none, Nat.reduceAdd, Nat.reduceMul, Nat.reduceSub, Nat.reduceLT, Nat.reduceLeDiff, Nat.reduceEqDiff, Nat.reduceSucc, Int.reduceAdd, Int.reduceSub, Int.reduceMul, Int.reduceNeg, Int.reduceLT, Int.reduceLE, Int.reduceEq, Int.reduceNe, Int.reduceToNat, Int.reduceTMod, Int.reduceTDiv, Int.reduceFDiv, Int.reducePow, Nat.reduceMod, Nat.reduceAnd, Nat.reduceDiv, Nat.reducePow, f94, K94, g0, w0, hne]
    refine level ?_
    by_cases h16 : a - now < 16
    · have hc2 : c = 1 + (a / 1 % 16).toNat := by rw [hcx]; unfold cell; rw [if_pos h16]
      subst hc2
      rw [show lv (a - now) = 0 by unfold lv; rw [if_pos h16]]
      simp (maxSteps := 2000000) (disch := omega) only [stp, ← decide_not, vEqz, eqz, vEqa, eqList, eqAtom, H.at, H.load, vBox, vNewSl, vBld, fill, Mx.part, vClear, vCopy, vBtos, source, lenV, V.isSl, Mx.room, slcut, cutOp, mkOp, bounds, natIn, H.kill, beq_self_eq_true, if_pos, if_neg, List.cons_append, List.nil_append, List.append_nil, List.length_cons, List.length_nil, List.length_set, List.take_succ_cons, List.take_zero, List.drop_succ_cons, List.drop_zero, List.take_nil, List.drop_nil, List.all_cons, List.all_nil, ite_self, if_true, if_false, ite_true, ite_false, reduceIte, reduceDIte, eq_self, ne_eq, gt_iff_lt, ge_iff_le, Option.map_some, Option.map_none, Nat.reduceAdd, Nat.reduceMul, Nat.reduceSub, Nat.reduceLT, Nat.reduceLeDiff, Nat.reduceEqDiff, Nat.reduceSucc, Int.reduceAdd, Int.reduceSub, Int.reduceMul, Int.reduceNeg, Int.reduceLT, Int.reduceLE, Int.reduceEq, Int.reduceNe, Int.reduceToNat, Int.reduceTMod, Int.reduceTDiv, Int.reduceFDiv, Int.reducePow, Nat.reduceMod, Nat.reduceAnd, Nat.reduceDiv, Nat.reducePow, K94, f129, K129, sh0]
      refine tslot (wd := 1) ⟨by omega, by omega⟩ (.inl rfl) ?_
      simp (maxSteps := 2000000) (disch := omega) only [stp, ← decide_not, vEqz, eqz, vEqa, eqList, eqAtom, H.at, H.load, vBox, vNewSl, vBld, fill, Mx.part, vClear, vCopy, vBtos, source, lenV, V.isSl, Mx.room, slcut, cutOp, mkOp, bounds, natIn, H.kill, beq_self_eq_true, if_pos, if_neg, List.cons_append, List.nil_append, List.append_nil, List.length_cons, List.length_nil, List.length_set, List.take_succ_cons, List.take_zero, List.drop_succ_cons, List.drop_zero, List.take_nil, List.drop_nil, List.all_cons, List.all_nil, ite_self, if_true, if_false, ite_true, ite_false, reduceIte, reduceDIte, eq_self, ne_eq, gt_iff_lt, ge_iff_le, Option.map_some, Option.map_none, Nat.reduceAdd, Nat.reduceMul, Nat.reduceSub, Nat.reduceLT, Nat.reduceLeDiff, Nat.reduceEqDiff, Nat.reduceSucc, Int.reduceAdd, Int.reduceSub, Int.reduceMul, Int.reduceNeg, Int.reduceLT, Int.reduceLE, Int.reduceEq, Int.reduceNe, Int.reduceToNat, Int.reduceTMod, Int.reduceTDiv, Int.reduceFDiv, Int.reducePow, Nat.reduceMod, Nat.reduceAnd, Nat.reduceDiv, Nat.reducePow, g0, hne, cc, k1, hw2, wn2, hrl]
      exact kq
    · by_cases h256 : a - now < 256
      · have hc2 : c = 17 + (a / 16 % 16).toNat := by rw [hcx]; unfold cell; rw [if_neg h16, if_pos h256]
        subst hc2
        rw [show lv (a - now) = 1 by unfold lv; rw [if_neg h16, if_pos h256]]
        simp (maxSteps := 2000000) (disch := omega) only [stp, ← decide_not, vEqz, eqz, vEqa, eqList, eqAtom, H.at, H.load, vBox, vNewSl, vBld, fill, Mx.part, vClear, vCopy, vBtos, source, lenV, V.isSl, Mx.room, slcut, cutOp, mkOp, bounds, natIn, H.kill, beq_self_eq_true, if_pos, if_neg, List.cons_append, List.nil_append, List.append_nil, List.length_cons, List.length_nil, List.length_set, List.take_succ_cons, List.take_zero, List.drop_succ_cons, List.drop_zero, List.take_nil, List.drop_nil, List.all_cons, List.all_nil, ite_self, if_true, if_false, ite_true, ite_false, reduceIte, reduceDIte, eq_self, ne_eq, gt_iff_lt, ge_iff_le, Option.map_some, Option.map_none, Nat.reduceAdd, Nat.reduceMul, Nat.reduceSub, Nat.reduceLT, Nat.reduceLeDiff, Nat.reduceEqDiff, Nat.reduceSucc, Int.reduceAdd, Int.reduceSub, Int.reduceMul, Int.reduceNeg, Int.reduceLT, Int.reduceLE, Int.reduceEq, Int.reduceNe, Int.reduceToNat, Int.reduceTMod, Int.reduceTDiv, Int.reduceFDiv, Int.reducePow, Nat.reduceMod, Nat.reduceAnd, Nat.reduceDiv, Nat.reducePow, K94, f129, K129, sh4]
        refine tslot (wd := 16) ⟨by omega, by omega⟩ (.inr (.inl rfl)) ?_
        simp (maxSteps := 2000000) (disch := omega) only [stp, ← decide_not, vEqz, eqz, vEqa, eqList, eqAtom, H.at, H.load, vBox, vNewSl, vBld, fill, Mx.part, vClear, vCopy, vBtos, source, lenV, V.isSl, Mx.room, slcut, cutOp, mkOp, bounds, natIn, H.kill, beq_self_eq_true, if_pos, if_neg, List.cons_append, List.nil_append, List.append_nil, List.length_cons, List.length_nil, List.length_set, List.take_succ_cons, List.take_zero, List.drop_succ_cons, List.drop_zero, List.take_nil, List.drop_nil, List.all_cons, List.all_nil, ite_self, if_true, if_false, ite_true, ite_false, reduceIte, reduceDIte, eq_self, ne_eq, gt_iff_lt, ge_iff_le, Option.map_some, Option.map_none, Nat.reduceAdd, Nat.reduceMul, Nat.reduceSub, Nat.reduceLT, Nat.reduceLeDiff, Nat.reduceEqDiff, Nat.reduceSucc, Int.reduceAdd, Int.reduceSub, Int.reduceMul, Int.reduceNeg, Int.reduceLT, Int.reduceLE, Int.reduceEq, Int.reduceNe, Int.reduceToNat, Int.reduceTMod, Int.reduceTDiv, Int.reduceFDiv, Int.reducePow, Nat.reduceMod, Nat.reduceAnd, Nat.reduceDiv, Nat.reducePow, g0, hne, cc, k1, hw2, wn2, hrl]
        exact kq
      · by_cases h4096 : a - now < 4096
        · have hc2 : c = 33 + (a / 256 % 16).toNat := by rw [hcx]; unfold cell; rw [if_neg h16, if_neg h256, if_pos h4096]
          subst hc2
          rw [show lv (a - now) = 2 by unfold lv; rw [if_neg h16, if_neg h256, if_pos h4096]]
          simp (maxSteps := 2000000) (disch := omega) only [stp, ← decide_not, vEqz, eqz, vEqa, eqList, eqAtom, H.at, H.load, vBox, vNewSl, vBld, fill, Mx.part, vClear, vCopy, vBtos, source, lenV, V.isSl, Mx.room, slcut, cutOp, mkOp, bounds, natIn, H.kill, beq_self_eq_true, if_pos, if_neg, List.cons_append, List.nil_append, List.append_nil, List.length_cons, List.length_nil, List.length_set, List.take_succ_cons, List.take_zero, List.drop_succ_cons, List.drop_zero, List.take_nil, List.drop_nil, List.all_cons, List.all_nil, ite_self, if_true, if_false, ite_true, ite_false, reduceIte, reduceDIte, eq_self, ne_eq, gt_iff_lt, ge_iff_le, Option.map_some, Option.map_none, Nat.reduceAdd, Nat.reduceMul, Nat.reduceSub, Nat.reduceLT, Nat.reduceLeDiff, Nat.reduceEqDiff, Nat.reduceSucc, Int.reduceAdd, Int.reduceSub, Int.reduceMul, Int.reduceNeg, Int.reduceLT, Int.reduceLE, Int.reduceEq, Int.reduceNe, Int.reduceToNat, Int.reduceTMod, Int.reduceTDiv, Int.reduceFDiv, Int.reducePow, Nat.reduceMod, Nat.reduceAnd, Nat.reduceDiv, Nat.reducePow, K94, f129, K129, sh8]
          refine tslot (wd := 256) ⟨by omega, by omega⟩ (.inr (.inr rfl)) ?_
          simp (maxSteps := 2000000) (disch := omega) only [stp, ← decide_not, vEqz, eqz, vEqa, eqList, eqAtom, H.at, H.load, vBox, vNewSl, vBld, fill, Mx.part, vClear, vCopy, vBtos, source, lenV, V.isSl, Mx.room, slcut, cutOp, mkOp, bounds, natIn, H.kill, beq_self_eq_true, if_pos, if_neg, List.cons_append, List.nil_append, List.append_nil, List.length_cons, List.length_nil, List.length_set, List.take_succ_cons, List.take_zero, List.drop_succ_cons, List.drop_zero, List.take_nil, List.drop_nil, List.all_cons, List.all_nil, ite_self, if_true, if_false, ite_true, ite_false, reduceIte, reduceDIte, eq_self, ne_eq, gt_iff_lt, ge_iff_le, Option.map_some, Option.map_none, Nat.reduceAdd, Nat.reduceMul, Nat.reduceSub, Nat.reduceLT, Nat.reduceLeDiff, Nat.reduceEqDiff, Nat.reduceSucc, Int.reduceAdd, Int.reduceSub, Int.reduceMul, Int.reduceNeg, Int.reduceLT, Int.reduceLE, Int.reduceEq, Int.reduceNe, Int.reduceToNat, Int.reduceTMod, Int.reduceTDiv, Int.reduceFDiv, Int.reducePow, Nat.reduceMod, Nat.reduceAnd, Nat.reduceDiv, Nat.reducePow, g0, hne, cc, k1, hw2, wn2, hrl]
          exact kq
        · have hc2 : c = 49 := by rw [hcx]; unfold cell; rw [if_neg h16, if_neg h256, if_neg h4096]
          subst hc2
          rw [show lv (a - now) = 3 by unfold lv; rw [if_neg h16, if_neg h256, if_neg h4096]]
          simp (maxSteps := 2000000) (disch := omega) only [stp, ← decide_not, vEqz, eqz, vEqa, eqList, eqAtom, H.at, H.load, vBox, vNewSl, vBld, fill, Mx.part, vClear, vCopy, vBtos, source, lenV, V.isSl, Mx.room, slcut, cutOp, mkOp, bounds, natIn, H.kill, beq_self_eq_true, if_pos, if_neg, List.cons_append, List.nil_append, List.append_nil, List.length_cons, List.length_nil, List.length_set, List.take_succ_cons, List.take_zero, List.drop_succ_cons, List.drop_zero, List.take_nil, List.drop_nil, List.all_cons, List.all_nil, ite_self, if_true, if_false, ite_true, ite_false, reduceIte, reduceDIte, eq_self, ne_eq, gt_iff_lt, ge_iff_le, Option.map_some, Option.map_none, Nat.reduceAdd, Nat.reduceMul, Nat.reduceSub, Nat.reduceLT, Nat.reduceLeDiff, Nat.reduceEqDiff, Nat.reduceSucc, Int.reduceAdd, Int.reduceSub, Int.reduceMul, Int.reduceNeg, Int.reduceLT, Int.reduceLE, Int.reduceEq, Int.reduceNe, Int.reduceToNat, Int.reduceTMod, Int.reduceTDiv, Int.reduceFDiv, Int.reducePow, Nat.reduceMod, Nat.reduceAnd, Nat.reduceDiv, Nat.reducePow, K94, g0, hne, cc, k1, hw2, wn2, hrl]
          exact kq
/-- the entries of its place are laid anew -/
theorem again_hit {h : H} {wr L k : Nat} {now a : Int} (hL : L < 3) (hk : k < 16) (o : On h wr now a (1 + L * 16 + k)) (hnow : 0 ≤ now) (ha : 0 ≤ a ∧ a ≤ 1099511627776) {Q : V → H → Prop} (q : ∀ h', On h' wr now a (cx a now) → Kw h wr h' → Q (.tup []) h') :
    @wF IP 128 [.p (some (wr, 0)), .i .i64 L, .i .i64 k] h ⟨Q⟩ := by
  obtain ⟨row, id, g0, wk, hwl, gid, idl, idw, hc1, hc2⟩ := o
  have hrl := wk.len
  have cc := wk.wc (1 + L * 16 + k) hc1 hc2
  rw [upd_at] at cc
  have wn2 : lay row (1 + L * 16 + k) [V.nsl] = row.set (1 + L * 16 + k) V.nsl := lay1 _ (by omega)
  have wk2 : Wr (row.set (1 + L * 16 + k) V.nsl) nil_ now 1 1 := (wk.setc ⟨hc1, hc2⟩ V.nsl).cg (fun c _ _ => by
    unfold upd nil_
    split
    · rfl
    · rfl)
  simp (maxSteps := 2000000) (disch := omega) only [stp, ← decide_not, vEqz, eqz, vEqa, eqList, eqAtom, H.at, H.load, vBox, vNewSl, vBld, fill, Mx.part, vClear, vCopy, vBtos, source, lenV, V.isSl, Mx.room, slcut, cutOp, mkOp, bounds, natIn, H.kill, beq_self_eq_true, if_pos, if_neg, List.cons_append, List.nil_append, List.append_nil, List.length_cons, List.length_nil, List.length_set, List.take_succ_cons, List.take_zero, List.drop_succ_cons, List.drop_zero, List.take_nil, List.drop_nil, List.all_cons, List.all_nil, ite_self, if_true, if_false, ite_true, ite_false, reduceIte, reduceDIte, eq_self, ne_eq, gt_iff_lt, ge_iff_le, Option.map_some, Option.map_none, Nat.reduceAdd, Nat.reduceMul, Nat.reduceSub, Nat.reduceLT, Nat.reduceLeDiff, Nat.reduceEqDiff, Nat.reduceSucc, Int.reduceAdd, Int.reduceSub, Int.reduceMul, Int.reduceNeg, Int.reduceLT, Int.reduceLE, Int.reduceEq, Int.reduceNe, Int.reduceToNat, Int.reduceTMod, Int.reduceTDiv, Int.reduceFDiv, Int.reducePow, Nat.reduceMod, Nat.reduceAnd, Nat.reduceDiv, Nat.reducePow, f128, K128, g0, cc, wn2, hrl]
  rw [W128_1_eq]
  have gid' := gid
  unfold ent at gid'
  simp (maxSteps := 2000000) (disch := omega) only [stp, ← decide_not, vEqz, eqz, vEqa, eqList, eqAtom, H.at, H.load, vBox, vNewSl, vBld, fill, Mx.part, vClear, vCopy, vBtos, source, lenV, V.isSl, Mx.room, slcut, cutOp, mkOp, bounds, natIn, H.kill, beq_self_eq_true, if_pos, if_neg, List.cons_append, List.nil_append, List.append_nil, List.length_cons, List.length_nil, List.length_set, List.take_succ_cons, List.take_zero, List.drop_succ_cons, List.drop_zero, List.take_nil, List.drop_nil, List.all_cons, List.all_nil, ite_self, if_true, if_false, ite_true, ite_false, reduceIte, reduceDIte, eq_self, ne_eq, gt_iff_lt, ge_iff_le, Option.map_some, Option.map_none, Nat.reduceAdd, Nat.reduceMul, Nat.reduceSub, Nat.reduceLT, Nat.reduceLeDiff, Nat.reduceEqDiff, Nat.reduceSucc, Int.reduceAdd, Int.reduceSub, Int.reduceMul, Int.reduceNeg, Int.reduceLT, Int.reduceLE, Int.reduceEq, Int.reduceNe, Int.reduceToNat, Int.reduceTMod, Int.reduceTDiv, Int.reduceFDiv, Int.reducePow, Nat.reduceMod, Nat.reduceAnd, Nat.reduceDiv, Nat.reducePow, L128_1, gid', idw]
  refine lay_em (a := a) (now := now) ⟨row.set (1 + L * 16 + k) V.nsl, ?_, wk2, ?_⟩ hnow ha (fun h1 o1 k1 => ?_)
  · simp (maxSteps := 2000000) (disch := omega) only [stp, ← decide_not, vEqz, eqz, vEqa, eqList, eqAtom, H.at, H.load, vBox, vNewSl, vBld, fill, Mx.part, vClear, vCopy, vBtos, source, lenV, V.isSl, Mx.room, slcut, cutOp, mkOp, bounds, natIn, H.kill, beq_self_eq_true, if_pos, if_neg, List.cons_append, List.nil_append, List.append_nil, List.length_cons, List.length_nil, List.length_set, List.take_succ_cons, List.take_zero, List.drop_succ_cons, List.drop_zero, List.take_nil, List.drop_nil, List.all_cons, List.all_nil, ite_self, if_true, if_false, ite_true, ite_false, reduceIte, reduceDIte, eq_self, ne_eq, gt_iff_lt, ge_iff_le, Option.map_some, Option.map_none, Nat.reduceAdd, Nat.reduceMul, Nat.reduceSub, Nat.reduceLT, Nat.reduceLeDiff, Nat.reduceEqDiff, Nat.reduceSucc, Int.reduceAdd, Int.reduceSub, Int.reduceMul, Int.reduceNeg, Int.reduceLT, Int.reduceLE, Int.reduceEq, Int.reduceNe, Int.reduceToNat, Int.reduceTMod, Int.reduceTDiv, Int.reduceFDiv, Int.reducePow, Nat.reduceMod, Nat.reduceAnd, Nat.reduceDiv, Nat.reducePow, ]
  · simp (maxSteps := 2000000) (disch := omega) only [stp, ← decide_not, vEqz, eqz, vEqa, eqList, eqAtom, H.at, H.load, vBox, vNewSl, vBld, fill, Mx.part, vClear, vCopy, vBtos, source, lenV, V.isSl, Mx.room, slcut, cutOp, mkOp, bounds, natIn, H.kill, beq_self_eq_true, if_pos, if_neg, List.cons_append, List.nil_append, List.append_nil, List.length_cons, List.length_nil, List.length_set, List.take_succ_cons, List.take_zero, List.drop_succ_cons, List.drop_zero, List.take_nil, List.drop_nil, List.all_cons, List.all_nil, ite_self, if_true, if_false, ite_true, ite_false, reduceIte, reduceDIte, eq_self, ne_eq, gt_iff_lt, ge_iff_le, Option.map_some, Option.map_none, Nat.reduceAdd, Nat.reduceMul, Nat.reduceSub, Nat.reduceLT, Nat.reduceLeDiff, Nat.reduceEqDiff, Nat.reduceSucc, Int.reduceAdd, Int.reduceSub, Int.reduceMul, Int.reduceNeg, Int.reduceLT, Int.reduceLE, Int.reduceEq, Int.reduceNe, Int.reduceToNat, Int.reduceTMod, Int.reduceTDiv, Int.reduceFDiv, Int.reducePow, Nat.reduceMod, Nat.reduceAnd, Nat.reduceDiv, Nat.reducePow, ]
    omega
  · simp (maxSteps := 2000000) (disch := omega) only [stp, ← decide_not, vEqz, eqz, vEqa, eqList, eqAtom, H.at, H.load, vBox, vNewSl, vBld, fill, Mx.part, vClear, vCopy, vBtos, source, lenV, V.isSl, Mx.room, slcut, cutOp, mkOp, bounds, natIn, H.kill, beq_self_eq_true, if_pos, if_neg, List.cons_append, List.nil_append, List.append_nil, List.length_cons, List.length_nil, List.length_set, List.take_succ_cons, List.take_zero, List.drop_succ_cons, List.drop_zero, List.take_nil, List.drop_nil, List.all_cons, List.all_nil, ite_self, if_true, if_false, ite_true, ite_false, reduceIte, reduceDIte, eq_self, ne_eq, gt_iff_lt, ge_iff_le, Option.map_some, Option.map_none, Nat.reduceAdd, Nat.reduceMul, Nat.reduceSub, Nat.reduceLT, Nat.reduceLeDiff, Nat.reduceEqDiff, Nat.reduceSucc, Int.reduceAdd, Int.reduceSub, Int.reduceMul, Int.reduceNeg, Int.reduceLT, Int.reduceLE, Int.reduceEq, Int.reduceNe, Int.reduceToNat, Int.reduceTMod, Int.reduceTDiv, Int.reduceFDiv, Int.reducePow, Nat.reduceMod, Nat.reduceAnd, Nat.reduceDiv, Nat.reducePow, ]
    rw [W128_1_eq]
    simp (maxSteps := 2000000) (disch := omega) only [stp, ← decide_not, vEqz, eqz, vEqa, eqList, eqAtom, H.at, H.load, vBox, vNewSl, vBld, fill, Mx.part, vClear, vCopy, vBtos, source, lenV, V.isSl, Mx.room, slcut, cutOp, mkOp, bounds, natIn, H.kill, beq_self_eq_true, if_pos, if_neg, List.cons_append, List.nil_append, List.append_nil, List.length_cons, List.length_nil, List.length_set, List.take_succ_cons, List.take_zero, List.drop_succ_cons, List.drop_zero, List.take_nil, List.drop_nil, List.all_cons, List.all_nil, ite_self, if_true, if_false, ite_true, ite_false, reduceIte, reduceDIte, eq_self, ne_eq, gt_iff_lt, ge_iff_le, Option.map_some, Option.map_none, Nat.reduceAdd, Nat.reduceMul, Nat.reduceSub, Nat.reduceLT, Nat.reduceLeDiff, Nat.reduceEqDiff, Nat.reduceSucc, Int.reduceAdd, Int.reduceSub, Int.reduceMul, Int.reduceNeg, Int.reduceLT, Int.reduceLE, Int.reduceEq, Int.reduceNe, Int.reduceToNat, Int.reduceTMod, Int.reduceTDiv, Int.reduceFDiv, Int.reducePow, Nat.reduceMod, Nat.reduceAnd, Nat.reduceDiv, Nat.reducePow, L128_1]
    refine q h1 o1 (Kw.trans ⟨?_, fun j h2 h3 => ?_⟩ k1)
    · simp (maxSteps := 2000000) (disch := omega) only [stp, ← decide_not, vEqz, eqz, vEqa, eqList, eqAtom, H.at, H.load, vBox, vNewSl, vBld, fill, Mx.part, vClear, vCopy, vBtos, source, lenV, V.isSl, Mx.room, slcut, cutOp, mkOp, bounds, natIn, H.kill, beq_self_eq_true, if_pos, if_neg, List.cons_append, List.nil_append, List.append_nil, List.length_cons, List.length_nil, List.length_set, List.take_succ_cons, List.take_zero, List.drop_succ_cons, List.drop_zero, List.take_nil, List.drop_nil, List.all_cons, List.all_nil, ite_self, if_true, if_false, ite_true, ite_false, reduceIte, reduceDIte, eq_self, ne_eq, gt_iff_lt, ge_iff_le, Option.map_some, Option.map_none, Nat.reduceAdd, Nat.reduceMul, Nat.reduceSub, Nat.reduceLT, Nat.reduceLeDiff, Nat.reduceEqDiff, Nat.reduceSucc, Int.reduceAdd, Int.reduceSub, Int.reduceMul, Int.reduceNeg, Int.reduceLT, Int.reduceLE, Int.reduceEq, Int.reduceNe, Int.reduceToNat, Int.reduceTMod, Int.reduceTDiv, Int.reduceFDiv, Int.reducePow, Nat.reduceMod, Nat.reduceAnd, Nat.reduceDiv, Nat.reducePow, ]
      omega
    · simp (maxSteps := 2000000) (disch := omega) only [stp, ← decide_not, vEqz, eqz, vEqa, eqList, eqAtom, H.at, H.load, vBox, vNewSl, vBld, fill, Mx.part, vClear, vCopy, vBtos, source, lenV, V.isSl, Mx.room, slcut, cutOp, mkOp, bounds, natIn, H.kill, beq_self_eq_true, if_pos, if_neg, List.cons_append, List.nil_append, List.append_nil, List.length_cons, List.length_nil, List.length_set, List.take_succ_cons, List.take_zero, List.drop_succ_cons, List.drop_zero, List.take_nil, List.drop_nil, List.all_cons, List.all_nil, ite_self, if_true, if_false, ite_true, ite_false, reduceIte, reduceDIte, eq_self, ne_eq, gt_iff_lt, ge_iff_le, Option.map_some, Option.map_none, Nat.reduceAdd, Nat.reduceMul, Nat.reduceSub, Nat.reduceLT, Nat.reduceLeDiff, Nat.reduceEqDiff, Nat.reduceSucc, Int.reduceAdd, Int.reduceSub, Int.reduceMul, Int.reduceNeg, Int.reduceLT, Int.reduceLE, Int.reduceEq, Int.reduceNe, Int.reduceToNat, Int.reduceTMod, Int.reduceTDiv, Int.reduceFDiv, Int.reducePow, Nat.reduceMod, Nat.reduceAnd, Nat.reduceDiv, Nat.reducePow, ]
theorem again_miss {h : H} {wr L k c : Nat} {now a : Int} (hL : L < 3) (hk : k < 16) (o : On h wr now a c) (hne : 1 + L * 16 + k ≠ c) {Q : V → H → Prop} (q : ∀ h', On h' wr now a c → Kw h wr h' → Q (.tup []) h') :
    @wF IP 128 [.p (some (wr, 0)), .i .i64 L, .i .i64 k] h ⟨Q⟩ := by
  have o' := o
  obtain ⟨row, id, g0, wk, hwl, gid, idl, idw, hc1, hc2⟩ := o
  have hrl := wk.len
  have cc := wk.wc (1 + L * 16 + k) (by omega) (by omega)
  rw [upd_ne _ _ hne] at cc
  unfold nil_ at cc
  have wn2 := lay_same cc
  simp (maxSteps := 2000000) (disch := omega) only [stp, ← decide_not, vEqz, eqz, vEqa, eqList, eqAtom, H.at, H.load, vBox, vNewSl, vBld, fill, Mx.part, vClear, vCopy, vBtos, source, lenV, V.isSl, Mx.room, slcut, cutOp, mkOp, bounds, natIn, H.kill, beq_self_eq_true, if_pos, if_neg, List.cons_append, List.nil_append, List.append_nil, List.length_cons, List.length_nil, List.length_set, List.take_succ_cons, List.take_zero, List.drop_succ_cons, List.drop_zero, List.take_nil, List.drop_nil, List.all_cons, List.all_nil, ite_self, if_true, if_false, ite_true, ite_false, reduceIte, reduceDIte, eq_self, ne_eq, gt_iff_lt, ge_iff_le, Option.map_some, Option.map_none, Nat.reduceAdd, Nat.reduceMul, Nat.reduceSub, Nat.reduceLT, Nat.reduceLeDiff, Nat.reduceEqDiff, Nat.reduceSucc, Int.reduceAdd, Int.reduceSub, Int.reduceMul, Int.reduceNeg, Int.reduceLT, Int.reduceLE, Int.reduceEq, Int.reduceNe, Int.reduceToNat, Int.reduceTMod, Int.reduceTDiv, Int.reduceFDiv, Int.reducePow, Nat.reduceMod, Nat.reduceAnd, Nat.reduceDiv, Nat.reducePow, f128, K128, g0, cc, wn2, hrl]
  rw [W128_1_eq]
  simp (maxSteps := 2000000) (disch := omega) only [stp, ← decide_not, vEqz, eqz, vEqa, eqList, eqAtom, H.at, H.load, vBox, vNewSl, vBld, fill, Mx.part, vClear, vCopy, vBtos, source, lenV, V.isSl, Mx.room, slcut, cutOp, mkOp, bounds, natIn, H.kill, beq_self_eq_true, if_pos, if_neg, List.cons_append, List.nil_append, List.append_nil, List.length_cons, List.length_nil, List.length_set, List.take_succ_cons, List.take_zero, List.drop_succ_cons, List.drop_zero, List.take_nil, List.drop_nil, List.all_cons, List.all_nil, ite_self, if_true, if_false, ite_true, ite_false, reduceIte, reduceDIte, eq_self, ne_eq, gt_iff_lt, ge_iff_le, Option.map_some, Option.map_none, Nat.reduceAdd, Nat.reduceMul, Nat.reduceSub, Nat.reduceLT, Nat.reduceLeDiff, Nat.reduceEqDiff, Nat.reduceSucc, Int.reduceAdd, Int.reduceSub, Int.reduceMul, Int.reduceNeg, Int.reduceLT, Int.reduceLE, Int.reduceEq, Int.reduceNe, Int.reduceToNat, Int.reduceTMod, Int.reduceTDiv, Int.reduceFDiv, Int.reducePow, Nat.reduceMod, Nat.reduceAnd, Nat.reduceDiv, Nat.reducePow, L128_1]
  exact q _ (o'.ext (put_same g0)) ((put_same g0).kw wr)
theorem nearer_hit {h : H} {wr : Nat} {now a : Int} (o : On h wr now a 49) (hnow : 0 ≤ now) (ha : 0 ≤ a ∧ a ≤ 1099511627776) {Q : V → H → Prop} (q : ∀ h', On h' wr now a (cx a now) → Kw h wr h' → Q (.tup []) h') :
    @wF IP 127 [.p (some (wr, 0))] h ⟨Q⟩ := by
  obtain ⟨row, id, g0, wk, hwl, gid, idl, idw, hc1, hc2⟩ := o
  have hrl := wk.len
  have cc := wk.wc 49 hc1 hc2
  rw [upd_at] at cc
  have wn2 : lay row 49 [V.nsl] = row.set 49 V.nsl := lay1 _ (by omega)
  have wk2 : Wr (row.set 49 V.nsl) nil_ now 1 1 := (wk.setc ⟨hc1, hc2⟩ V.nsl).cg (fun c _ _ => by
    unfold upd nil_
    split
    · rfl
    · rfl)
  simp (maxSteps := 2000000) (disch := omega) only [stp, ← decide_not, vEqz, eqz, vEqa, eqList, eqAtom, H.at, H.load, vBox, vNewSl, vBld, fill, Mx.part, vClear, vCopy, vBtos, source, lenV, V.isSl, Mx.room, slcut, cutOp, mkOp, bounds, natIn, H.kill, beq_self_eq_true, if_pos, if_neg, List.cons_append, List.nil_append, List.append_nil, List.length_cons, List.length_nil, List.length_set, List.take_succ_cons, List.take_zero, List.drop_succ_cons, List.drop_zero, List.take_nil, List.drop_nil, List.all_cons, List.all_nil, ite_self, if_true, if_false, ite_true, ite_false, reduceIte, reduceDIte, eq_self, ne_eq, gt_iff_lt, ge_iff_le, Option.map_some, Option.map_none, Nat.reduceAdd, Nat.reduceMul, Nat.reduceSub, Nat.reduceLT, Nat.reduceLeDiff, Nat.reduceEqDiff, Nat.reduceSucc, Int.reduceAdd, Int.reduceSub, Int.reduceMul, Int.reduceNeg, Int.reduceLT, Int.reduceLE, Int.reduceEq, Int.reduceNe, Int.reduceToNat, Int.reduceTMod, Int.reduceTDiv, Int.reduceFDiv, Int.reducePow, Nat.reduceMod, Nat.reduceAnd, Nat.reduceDiv, Nat.reducePow, f127, K127, g0, cc, wn2, hrl]
  rw [W127_1_eq]
  have gid' := gid
  unfold ent at gid'
  simp (maxSteps := 2000000) (disch := omega) only [stp, ← decide_not, vEqz, eqz, vEqa, eqList, eqAtom, H.at, H.load, vBox, vNewSl, vBld, fill, Mx.part, vClear, vCopy, vBtos, source, lenV, V.isSl, Mx.room, slcut, cutOp, mkOp, bounds, natIn, H.kill, beq_self_eq_true, if_pos, if_neg, List.cons_append, List.nil_append, List.append_nil, List.length_cons, List.length_nil, List.length_set, List.take_succ_cons, List.take_zero, List.drop_succ_cons, List.drop_zero, List.take_nil, List.drop_nil, List.all_cons, List.all_nil, ite_self, if_true, if_false, ite_true, ite_false, reduceIte, reduceDIte, eq_self, ne_eq, gt_iff_lt, ge_iff_le, Option.map_some, Option.map_none, Nat.reduceAdd, Nat.reduceMul, Nat.reduceSub, Nat.reduceLT, Nat.reduceLeDiff, Nat.reduceEqDiff, Nat.reduceSucc, Int.reduceAdd, Int.reduceSub, Int.reduceMul, Int.reduceNeg, Int.reduceLT, Int.reduceLE, Int.reduceEq, Int.reduceNe, Int.reduceToNat, Int.reduceTMod, Int.reduceTDiv, Int.reduceFDiv, Int.reducePow, Nat.reduceMod, Nat.reduceAnd, Nat.reduceDiv, Nat.reducePow, L127_1, gid', idw]
  refine lay_em (a := a) (now := now) ⟨row.set 49 V.nsl, ?_, wk2, ?_⟩ hnow ha (fun h1 o1 k1 => ?_)
  · simp (maxSteps := 2000000) (disch := omega) only [stp, ← decide_not, vEqz, eqz, vEqa, eqList, eqAtom, H.at, H.load, vBox, vNewSl, vBld, fill, Mx.part, vClear, vCopy, vBtos, source, lenV, V.isSl, Mx.room, slcut, cutOp, mkOp, bounds, natIn, H.kill, beq_self_eq_true, if_pos, if_neg, List.cons_append, List.nil_append, List.append_nil, List.length_cons, List.length_nil, List.length_set, List.take_succ_cons, List.take_zero, List.drop_succ_cons, List.drop_zero, List.take_nil, List.drop_nil, List.all_cons, List.all_nil, ite_self, if_true, if_false, ite_true, ite_false, reduceIte, reduceDIte, eq_self, ne_eq, gt_iff_lt, ge_iff_le, Option.map_some, Option.map_none, Nat.reduceAdd, Nat.reduceMul, Nat.reduceSub, Nat.reduceLT, Nat.reduceLeDiff, Nat.reduceEqDiff, Nat.reduceSucc, Int.reduceAdd, Int.reduceSub, Int.reduceMul, Int.reduceNeg, Int.reduceLT, Int.reduceLE, Int.reduceEq, Int.reduceNe, Int.reduceToNat, Int.reduceTMod, Int.reduceTDiv, Int.reduceFDiv, Int.reducePow, Nat.reduceMod, Nat.reduceAnd, Nat.reduceDiv, Nat.reducePow, ]
  · simp (maxSteps := 2000000) (disch := omega) only [stp, ← decide_not, vEqz, eqz, vEqa, eqList, eqAtom, H.at, H.load, vBox, vNewSl, vBld, fill, Mx.part, vClear, vCopy, vBtos, source, lenV, V.isSl, Mx.room, slcut, cutOp, mkOp, bounds, natIn, H.kill, beq_self_eq_true, if_pos, if_neg, List.cons_append, List.nil_append, List.append_nil, List.length_cons, List.length_nil, List.length_set, List.take_succ_cons, List.take_zero, List.drop_succ_cons, List.drop_zero, List.take_nil, List.drop_nil, List.all_cons, List.all_nil, ite_self, if_true, if_false, ite_true, ite_false, reduceIte, reduceDIte, eq_self, ne_eq, gt_iff_lt, ge_iff_le, Option.map_some, Option.map_none, Nat.reduceAdd, Nat.reduceMul, Nat.reduceSub, Nat.reduceLT, Nat.reduceLeDiff, Nat.reduceEqDiff, Nat.reduceSucc, Int.reduceAdd, Int.reduceSub, Int.reduceMul, Int.reduceNeg, Int.reduceLT, Int.reduceLE, Int.reduceEq, Int.reduceNe, Int.reduceToNat, Int.reduceTMod, Int.reduceTDiv, Int.reduceFDiv, Int.reducePow, Nat.reduceMod, Nat.reduceAnd, Nat.reduceDiv, Nat.reducePow, ]
    omega
  · simp (maxSteps := 2000000) (disch := omega) only [stp, ← decide_not, vEqz, eqz, vEqa, eqList, eqAtom, H.at, H.load, vBox, vNewSl, vBld, fill, Mx.part, vClear, vCopy, vBtos, source, lenV, V.isSl, Mx.room, slcut, cutOp, mkOp, bounds, natIn, H.kill, beq_self_eq_true, if_pos, if_neg, List.cons_append, List.nil_append, List.append_nil, List.length_cons, List.length_nil, List.length_set, List.take_succ_cons, List.take_zero, List.drop_succ_cons, List.drop_zero, List.take_nil, List.drop_nil, List.all_cons, List.all_nil, ite_self, if_true, if_false, ite_true, ite_false, reduceIte, reduceDIte, eq_self, ne_eq, gt_iff_lt, ge_iff_le, Option.map_some, Option.map_none, Nat.reduceAdd, Nat.reduceMul, Nat.reduceSub, Nat.reduceLT, Nat.reduceLeDiff, Nat.reduceEqDiff, Nat.reduceSucc, Int.reduceAdd, Int.reduceSub, Int.reduceMul, Int.reduceNeg, Int.reduceLT, Int.reduceLE, Int.reduceEq, Int.reduceNe, Int.reduceToNat, Int.reduceTMod, Int.reduceTDiv, Int.reduceFDiv, Int.reducePow, Nat.reduceMod, Nat.reduceAnd, Nat.reduceDiv, Nat.reducePow, ]
    rw [W127_1_eq]
    simp (maxSteps := 2000000) (disch := omega) only [stp, ← decide_not, vEqz, eqz, vEqa, eqList, eqAtom, H.at, H.load, vBox, vNewSl, vBld, fill, Mx.part, vClear, vCopy, vBtos, source, lenV, V.isSl, Mx.room, slcut, cutOp, mkOp, bounds, natIn, H.kill, beq_self_eq_true, if_pos, if_neg, List.cons_append, List.nil_append, List.append_nil, List.length_cons, List.length_nil, List.length_set, List.take_succ_cons, List.take_zero, List.drop_succ_cons, List.drop_zero, List.take_nil, List.drop_nil, List.all_cons, List.all_nil, ite_self, if_true, if_false, ite_true, ite_false, reduceIte, reduceDIte, eq_self, ne_eq, gt_iff_lt, ge_iff_le, Option.map_some, Option.map_none, Nat.reduceAdd, Nat.reduceMul, Nat.reduceSub, Nat.reduceLT, Nat.reduceLeDiff, Nat.reduceEqDiff, Nat.reduceSucc, Int.reduceAdd, Int.reduceSub, Int.reduceMul, Int.reduceNeg, Int.reduceLT, Int.reduceLE, Int.reduceEq, Int.reduceNe, Int.reduceToNat, Int.reduceTMod, Int.reduceTDiv, Int.reduceFDiv, Int.reducePow, Nat.reduceMod, Nat.reduceAnd, Nat.reduceDiv, Nat.reducePow, L127_1]
    refine q h1 o1 (Kw.trans ⟨?_, fun j h2 h3 => ?_⟩ k1)
    · simp (maxSteps := 2000000) (disch := omega) only [stp, ← decide_not, vEqz, eqz, vEqa, eqList, eqAtom, H.at, H.load, vBox, vNewSl, vBld, fill, Mx.part, vClear, vCopy, vBtos, source, lenV, V.isSl, Mx.room, slcut, cutOp, mkOp, bounds, natIn, H.kill, beq_self_eq_true, if_pos, if_neg, List.cons_append, List.nil_append, List.append_nil, List.length_cons, List.length_nil, List.length_set, List.take_succ_cons, List.take_zero, List.drop_succ_cons, List.drop_zero, List.take_nil, List.drop_nil, List.all_cons, List.all_nil, ite_self, if_true, if_false, ite_true, ite_false, reduceIte, reduceDIte, eq_self, ne_eq, gt_iff_lt, ge_iff_le, Option.map_some, Option.map_none, Nat.reduceAdd, Nat.reduceMul, Nat.reduceSub, Nat.reduceLT, Nat.reduceLeDiff, Nat.reduceEqDiff, Nat.reduceSucc, Int.reduceAdd, Int.reduceSub, Int.reduceMul, Int.reduceNeg, Int.reduceLT, Int.reduceLE, Int.reduceEq, Int.reduceNe, Int.reduceToNat, Int.reduceTMod, Int.reduceTDiv, Int.reduceFDiv, Int.reducePow, Nat.reduceMod, Nat.reduceAnd, Nat.reduceDiv, Nat.reducePow, ]
      omega
    · simp (maxSteps := 2000000) (disch := omega) only [stp, ← decide_not, vEqz, eqz, vEqa, eqList, eqAtom, H.at, H.load, vBox, vNewSl, vBld, fill, Mx.part, vClear, vCopy, vBtos, source, lenV, V.isSl, Mx.room, slcut, cutOp, mkOp, bounds, natIn, H.kill, beq_self_eq_true, if_pos, if_neg, List.cons_append, List.nil_append, List.append_nil, List.length_cons, List.length_nil, List.length_set, List.take_succ_cons, List.take_zero, List.drop_succ_cons, List.drop_zero, List.take_nil, List.drop_nil, List.all_cons, List.all_nil, ite_self, if_true, if_false, ite_true, ite_false, reduceIte, reduceDIte, eq_self, ne_eq, gt_iff_lt, ge_iff_le, Option.map_some, Option.map_none, Nat.reduceAdd, Nat.reduceMul, Nat.reduceSub, Nat.reduceLT, Nat.reduceLeDiff, Nat.reduceEqDiff, Nat.reduceSucc, Int.reduceAdd, Int.reduceSub, Int.reduceMul, Int.reduceNeg, Int.reduceLT, Int.reduceLE, Int.reduceEq, Int.reduceNe, Int.reduceToNat, Int.reduceTMod, Int.reduceTDiv, Int.reduceFDiv, Int.reducePow, Nat.reduceMod, Nat.reduceAnd, Nat.reduceDiv, Nat.reducePow, ]
theorem nearer_miss {h : H} {wr c : Nat} {now a : Int} (o : On h wr now a c) (hne : 49 ≠ c) {Q : V → H → Prop} (q : ∀ h', On h' wr now a c → Kw h wr h' → Q (.tup []) h') :
    @wF IP 127 [.p (some (wr, 0))] h ⟨Q⟩ := by
  have o' := o
  obtain ⟨row, id, g0, wk, hwl, gid, idl, idw, hc1, hc2⟩ := o
  have hrl := wk.len
  have cc := wk.wc 49 (by omega) (by omega)
  rw [upd_ne _ _ hne] at cc
  unfold nil_ at cc
  have wn2 := lay_same cc
  simp (maxSteps := 2000000) (disch := omega) only [stp, ← decide_not, vEqz, eqz, vEqa, eqList, eqAtom, H.at, H.load, vBox, vNewSl, vBld, fill, Mx.part, vClear, vCopy, vBtos, source, lenV, V.isSl, Mx.room, slcut, cutOp, mkOp, bounds, natIn, H.kill, beq_self_eq_true, if_pos, if_neg, List.cons_append, List.nil_append, List.append_nil, List.length_cons, List.length_nil, List.length_set, List.take_succ_cons, List.take_zero, List.drop_succ_cons, List.drop_zero, List.take_nil, List.drop_nil, List.all_cons, List.all_nil, ite_self, if_true, if_false, ite_true, ite_false, reduceIte, reduceDIte, eq_self, ne_eq, gt_iff_lt, ge_iff_le, Option.map_some, Option.map_none, Nat.reduceAdd, Nat.reduceMul, Nat.reduceSub, Nat.reduceLT, Nat.reduceLeDiff, Nat.reduceEqDiff, Nat.reduceSucc, Int.reduceAdd, Int.reduceSub, Int.reduceMul, Int.reduceNeg, Int.reduceLT, Int.reduceLE, Int.reduceEq, Int.reduceNe, Int.reduceToNat, Int.reduceTMod, Int.reduceTDiv, Int.reduceFDiv, Int.reducePow, Nat.reduceMod, Nat.reduceAnd, Nat.reduceDiv, Nat.reducePow, f127, K127, g0, cc, wn2, hrl]
  rw [W127_1_eq]
  simp (maxSteps := 2000000) (disch := omega) only [stp, ← decide_not, vEqz, eqz, vEqa, eqList, eqAtom, H.at, H.load, vBox, vNewSl, vBld, fill, Mx.part, vClear, vCopy, vBtos, source, lenV, V.isSl, Mx.room, slcut, cutOp, mkOp, bounds, natIn, H.kill, beq_self_eq_true, if_pos, if_neg, List.cons_append, List.nil_append, List.append_nil, List.length_cons, List.length_nil, List.length_set, List.take_succ_cons, List.take_zero, List.drop_succ_cons, List.drop_zero, List.take_nil, List.drop_nil, List.all_cons, List.all_nil, ite_self, if_true, if_false, ite_true, ite_false, reduceIte, reduceDIte, eq_self, ne_eq, gt_iff_lt, ge_iff_le, Option.map_some, Option.map_none, Nat.reduceAdd, Nat.reduceMul, Nat.reduceSub, Nat.reduceLT, Nat.reduceLeDiff, Nat.reduceEqDiff, Nat.reduceSucc, Int.reduceAdd, Int.reduceSub, Int.reduceMul, Int.reduceNeg, Int.reduceLT, Int.reduceLE, Int.reduceEq, Int.reduceNe, Int.reduceToNat, Int.reduceTMod, Int.reduceTDiv, Int.reduceFDiv, Int.reducePow, Nat.reduceMod, Nat.reduceAnd, Nat.reduceDiv, Nat.reducePow, L127_1]
  exact q _ (o'.ext (put_same g0)) ((put_same g0).kw wr)
/-! ### how time goes on -/
def sc (a now : Int) (n : Nat) (w : Int) (c : Nat) : Nat := if now % w = 0 ∧ c = 1 + n * 16 + (now / w % 16).toNat then cx a now else c
def tk (a now : Int) (c : Nat) : Nat := sc a now 0 1 (sc a now 1 16 (sc a now 2 256 (if c = 49 then cx a now else c)))
theorem On.time {h : H} {wr c : Nat} {now a : Int} (o : On h wr now a c) (t : Int) : ∃ row, h.get wr = some ⟨false, row⟩ ∧ row.length = 53 ∧ row[0]? = some (.i .i64 now) ∧ lay row 0 [.i .i64 t] = row.set 0 (.i .i64 t) ∧ On (h.put wr (some ⟨false, row.set 0 (.i .i64 t)⟩)) wr t a c ∧ (row.set 0 (.i .i64 t))[0]? = some (.i .i64 t) ∧ (row.set 0 (.i .i64 t)).length = 53 := by
  obtain ⟨row, id, g0, wk, hwl, gid, idl, idw, hc1, hc2⟩ := o
  have hl := wk.len
  refine ⟨row, g0, hl, wk.w0, lay1 _ (by omega), ⟨row.set 0 (.i .i64 t), id, by rw [H.get_put, if_pos rfl], ⟨by rw [List.length_set]; exact hl, ?_, fun j h1 h2 => ?_, ?_, ?_⟩, hwl, by rw [H.get_put, if_neg idw]; exact gid, idl, idw, hc1, hc2⟩, ?_, by rw [List.length_set]; exact hl⟩
  · rw [List.getElem?_set, if_pos rfl, if_pos (by omega)]
  · rw [List.getElem?_set, if_neg (by omega)]; exact wk.wc j h1 h2
  · rw [List.getElem?_set, if_neg (by omega)]; exact wk.wn
  · rw [List.getElem?_set, if_neg (by omega)]; exact wk.wl
  · rw [List.getElem?_set, if_pos rfl, if_pos (by omega)]
theorem On.now {h : H} {wr c : Nat} {now a : Int} (o : On h wr now a c) : ∃ row, h.get wr = some ⟨false, row⟩ ∧ row.length = 53 ∧ row[0]? = some (.i .i64 now) ∧ (∀ j, 1 ≤ j → j ≤ 50 → j ≠ c → row[j]? = some .nsl) ∧ (∃ id, row[c]? = some (.sl id 0 1 (.op 6)) ∧ h.get id = some ⟨false, ent a 0 1⟩ ∧ id < h.nx ∧ id ≠ wr) ∧ wr < h.nx ∧ row[51]? = some (.i .i64 1) ∧ 1 ≤ c ∧ c ≤ 50 := by
  obtain ⟨row, id, g0, wk, hwl, gid, idl, idw, hc1, hc2⟩ := o
  exact ⟨row, g0, wk.len, wk.w0, fun j h1 h2 h3 => (wk.wc j h1 h2).trans (by rw [upd_ne _ _ h3]; rfl), ⟨id, (wk.wc c hc1 hc2).trans (by rw [upd_at]), gid, idl, idw⟩, hwl, wk.wn, hc1, hc2⟩
theorem again_any {h : H} {wr L c : Nat} {s now a : Int} (hL : L < 3) (hs : 0 ≤ s ∧ s < 16) (o : On h wr now a c) (hnow : 0 ≤ now) (ha : 0 ≤ a ∧ a ≤ 1099511627776) {Q : V → H → Prop} (q : ∀ h', On h' wr now a (if c = 1 + L * 16 + s.toNat then cx a now else c) → Kw h wr h' → Q (.tup []) h') :
    @wF IP 128 [.p (some (wr, 0)), .i .i64 L, .i .i64 s] h ⟨Q⟩ := by
  obtain ⟨k, rfl⟩ : ∃ k : Nat, s = k := ⟨s.toNat, by omega⟩
  simp only [Int.toNat_natCast] at q
  by_cases hc : c = 1 + L * 16 + k
  · rw [if_pos hc] at q
    subst hc
    exact again_hit hL (by omega) o hnow ha q
  · rw [if_neg hc] at q
    exact again_miss hL (by omega) o (Ne.symm hc) q
theorem shn (n : Nat) (hn : n < 3) : ∃ w : Int, bin .shl (.i .i64 1) (.i .i64 (4 * n)) = some (.i .i64 w) ∧ (n = 0 ∧ w = 1 ∨ n = 1 ∧ w = 16 ∨ n = 2 ∧ w = 256) := by
  rcases (by omega : n = 0 ∨ n = 1 ∨ n = 2) with rfl | rfl | rfl
  · exact ⟨1, by kernel_rfl, by omega⟩
  · exact ⟨16, by kernel_rfl, by omega⟩
  · exact ⟨256, by kernel_rfl, by omega⟩
theorem cut1 {l : List V} {n : Nat} {v : V} (h : l[n]? = some v) : cut l n 1 = some [v] := by
  obtain ⟨hn, rfl⟩ := List.getElem?_eq_some_iff.1 h
  unfold cut
  rw [if_pos (by omega), List.drop_eq_getElem_cons hn]
  rfl
theorem lstep {h : H} {wr n c : Nat} {now a : Int} (hn : n < 3) (o : On h wr now a c) (hnow : 0 ≤ now ∧ now ≤ 1099511627776) (ha : 0 ≤ a ∧ a ≤ 1099511627776) {q : Hid (V → H → Prop)} {g : Hid (V → V → H → Prop)}
    (Qg : ∀ h', On h' wr now a (sc a now n (if n = 0 then 1 else if n = 1 then 16 else 256) c) → Kw h wr h' → g.un (.p (some (wr, 0))) (.i .i64 ((n : Int) - 1)) h') :
    @L88_2 (.p (some (wr, 0))) (.i .i64 n) h q g := by
  obtain ⟨row, g0, hl, w0, _, _, hwl, _⟩ := o.now
  have hcut := cut1 w0
  obtain ⟨w, hw, hcase⟩ := shn n hn
  have hwe : (if n = 0 then (1 : Int) else if n = 1 then 16 else 256) = w := by
    rcases hcase with ⟨rfl, rfl⟩ | ⟨rfl, rfl⟩ | ⟨rfl, rfl⟩ <;> rfl
  rw [hwe] at Qg
  have hwp : w = 1 ∨ w = 16 ∨ w = 256 := by omega
  have e2 : now.tmod w = now % w := Int.tmod_eq_emod_of_nonneg hnow.1
  have hs : 0 ≤ now / w % 16 ∧ now / w % 16 < 16 := by omega
  by_cases hm : now % w = 0
  · simp (maxSteps := 2000000) (disch := omega) only [stp, ← decide_not, vEqz, eqz, vEqa, eqList, eqAtom, H.at, H.load, vBox, vNewSl, vBld, fill, Mx.part, vClear, vCopy, vBtos, source, lenV, V.isSl, Mx.room, slcut, cutOp, mkOp, bounds, natIn, H.kill, beq_self_eq_true, if_pos, if_neg, List.cons_append, List.nil_append, List.append_nil, List.length_cons, List.length_nil, List.length_set, List.take_succ_cons, List.take_zero, List.drop_succ_cons, List.drop_zero, List.take_nil, List.drop_nil, List.all_cons, List.all_nil, ite_self, if_true, if_false, ite_true, ite_false, reduceIte, reduceDIte, eq_self, ne_eq, gt_iff_lt, ge_iff_le, Option.map_some, Option.map_none, Nat.reduceAdd, Nat.reduceMul, Nat.reduceSub, Nat.reduceLT, Nat.reduceLeDiff, Nat.reduceEqDiff, Nat.reduceSucc, Int.reduceAdd, Int.reduceSub, Int.reduceMul, Int.reduceNeg, Int.reduceLT, Int.reduceLE, Int.reduceEq, Int.reduceNe, Int.reduceToNat, Int.reduceTMod, Int.reduceTDiv, Int.reduceFDiv, Int.reducePow, Nat.reduceMod, Nat.reduceAnd, Nat.reduceDiv, Nat.reducePow, L88_2, f129, K129, g0, w0, hw, e2, hm, hcut]
    refine tslot (wd := w) hnow hwp ?_
    try simp (maxSteps := 2000000) (disch := omega) only [stp, ← decide_not, vEqz, eqz, vEqa, eqList, eqAtom, H.at, H.load, vBox, vNewSl, vBld, fill, Mx.part, vClear, vCopy, vBtos, source, lenV, V.isSl, Mx.room, slcut, cutOp, mkOp, bounds, natIn, H.kill, beq_self_eq_true, if_pos, if_neg, List.cons_append, List.nil_append, List.append_nil, List.length_cons, List.length_nil, List.length_set, List.take_succ_cons, List.take_zero, List.drop_succ_cons, List.drop_zero, List.take_nil, List.drop_nil, List.all_cons, List.all_nil, ite_self, if_true, if_false, ite_true, ite_false, reduceIte, reduceDIte, eq_self, ne_eq, gt_iff_lt, ge_iff_le, Option.map_some, Option.map_none, Nat.reduceAdd, Nat.reduceMul, Nat.reduceSub, Nat.reduceLT, Nat.reduceLeDiff, Nat.reduceEqDiff, Nat.reduceSucc, Int.reduceAdd, Int.reduceSub, Int.reduceMul, Int.reduceNeg, Int.reduceLT, Int.reduceLE, Int.reduceEq, Int.reduceNe, Int.reduceToNat, Int.reduceTMod, Int.reduceTDiv, Int.reduceFDiv, Int.reducePow, Nat.reduceMod, Nat.reduceAnd, Nat.reduceDiv, Nat.reducePow, ]
    refine again_any hn hs o hnow.1 ha (fun h' o' k' => ?_)
    simp (maxSteps := 2000000) (disch := omega) only [stp, ← decide_not, vEqz, eqz, vEqa, eqList, eqAtom, H.at, H.load, vBox, vNewSl, vBld, fill, Mx.part, vClear, vCopy, vBtos, source, lenV, V.isSl, Mx.room, slcut, cutOp, mkOp, bounds, natIn, H.kill, beq_self_eq_true, if_pos, if_neg, List.cons_append, List.nil_append, List.append_nil, List.length_cons, List.length_nil, List.length_set, List.take_succ_cons, List.take_zero, List.drop_succ_cons, List.drop_zero, List.take_nil, List.drop_nil, List.all_cons, List.all_nil, ite_self, if_true, if_false, ite_true, ite_false, reduceIte, reduceDIte, eq_self, ne_eq, gt_iff_lt, ge_iff_le, Option.map_some, Option.map_none, Nat.reduceAdd, Nat.reduceMul, Nat.reduceSub, Nat.reduceLT, Nat.reduceLeDiff, Nat.reduceEqDiff, Nat.reduceSucc, Int.reduceAdd, Int.reduceSub, Int.reduceMul, Int.reduceNeg, Int.reduceLT, Int.reduceLE, Int.reduceEq, Int.reduceNe, Int.reduceToNat, Int.reduceTMod, Int.reduceTDiv, Int.reduceFDiv, Int.reducePow, Nat.reduceMod, Nat.reduceAnd, Nat.reduceDiv, Nat.reducePow, K88_3, g0, hcut]
    refine Qg h' ?_ k'
    unfold sc
    by_cases hc : c = 1 + n * 16 + (now / w % 16).toNat
    · rw [if_pos hc] at o'
      rw [if_pos ⟨hm, hc⟩]
      exact o'
    · rw [if_neg hc] at o'
      rw [if_neg (fun e => hc e.2)]
      exact o'
  · simp (maxSteps := 2000000) (disch := omega) only [stp, ← decide_not, vEqz, eqz, vEqa, eqList, eqAtom, H.at, H.load, vBox, vNewSl, vBld, fill, Mx.part, vClear, vCopy, vBtos, source, lenV, V.isSl, Mx.room, slcut, cutOp, mkOp, bounds, natIn, H.kill, beq_self_eq_true, if_pos, if_neg, List.cons_append, List.nil_append, List.append_nil, List.length_cons, List.length_nil, List.length_set, List.take_succ_cons, List.take_zero, List.drop_succ_cons, List.drop_zero, List.take_nil, List.drop_nil, List.all_cons, List.all_nil, ite_self, if_true, if_false, ite_true, ite_false, reduceIte, reduceDIte, eq_self, ne_eq, gt_iff_lt, ge_iff_le, Option.map_some, Option.map_none, Nat.reduceAdd, Nat.reduceMul, Nat.reduceSub, Nat.reduceLT, Nat.reduceLeDiff, Nat.reduceEqDiff, Nat.reduceSucc, Int.reduceAdd, Int.reduceSub, Int.reduceMul, Int.reduceNeg, Int.reduceLT, Int.reduceLE, Int.reduceEq, Int.reduceNe, Int.reduceToNat, Int.reduceTMod, Int.reduceTDiv, Int.reduceFDiv, Int.reducePow, Nat.reduceMod, Nat.reduceAnd, Nat.reduceDiv, Nat.reducePow, L88_2, f129, K129, g0, w0, hw, e2, hm, hcut]
    try simp (maxSteps := 2000000) (disch := omega) only [stp, ← decide_not, vEqz, eqz, vEqa, eqList, eqAtom, H.at, H.load, vBox, vNewSl, vBld, fill, Mx.part, vClear, vCopy, vBtos, source, lenV, V.isSl, Mx.room, slcut, cutOp, mkOp, bounds, natIn, H.kill, beq_self_eq_true, if_pos, if_neg, List.cons_append, List.nil_append, List.append_nil, List.length_cons, List.length_nil, List.length_set, List.take_succ_cons, List.take_zero, List.drop_succ_cons, List.drop_zero, List.take_nil, List.drop_nil, List.all_cons, List.all_nil, ite_self, if_true, if_false, ite_true, ite_false, reduceIte, reduceDIte, eq_self, ne_eq, gt_iff_lt, ge_iff_le, Option.map_some, Option.map_none, Nat.reduceAdd, Nat.reduceMul, Nat.reduceSub, Nat.reduceLT, Nat.reduceLeDiff, Nat.reduceEqDiff, Nat.reduceSucc, Int.reduceAdd, Int.reduceSub, Int.reduceMul, Int.reduceNeg, Int.reduceLT, Int.reduceLE, Int.reduceEq, Int.reduceNe, Int.reduceToNat, Int.reduceTMod, Int.reduceTDiv, Int.reduceFDiv, Int.reducePow, Nat.reduceMod, Nat.reduceAnd, Nat.reduceDiv, Nat.reducePow, K88_3]
    refine Qg h ?_ ((Ext.refl h).kw wr)
    unfold sc
    rw [if_neg (fun e => hm e.1)]
    exact o
theorem sc_in {a now : Int} {n : Nat} {w : Int} {c : Nat} (h : 1 ≤ c ∧ c ≤ 50) : 1 ≤ sc a now n w c ∧ sc a now n w c ≤ 50 := by
  unfold sc
  have := cx_in a now
  split <;> omega
theorem tick_loop {h : H} {wr c : Nat} {now a : Int} (o : On h wr now a c) (hnow : 0 ≤ now ∧ now ≤ 1099511627776) (ha : 0 ≤ a ∧ a ≤ 1099511627776) {Q : V → H → Prop} (q : ∀ h', On h' wr now a (sc a now 0 1 (sc a now 1 16 (sc a now 2 256 c))) → Kw h wr h' → Q (.tup []) h') :
    @W88_2 (.p (some (wr, 0))) (.i .i64 2) h ⟨Q⟩ := by
  rw [W88_2_eq]
  refine lstep (n := 2) (by omega) o hnow ha (fun h1 o1 k1 => ?_)
  show @W88_2 (.p (some (wr, 0))) (.i .i64 1) h1 ⟨Q⟩
  rw [W88_2_eq]
  refine lstep (n := 1) (by omega) o1 hnow ha (fun h2 o2 k2 => ?_)
  show @W88_2 (.p (some (wr, 0))) (.i .i64 0) h2 ⟨Q⟩
  rw [W88_2_eq]
  refine lstep (n := 0) (by omega) o2 hnow ha (fun h3 o3 k3 => ?_)
  show @W88_2 (.p (some (wr, 0))) (.i .i64 (-1)) h3 ⟨Q⟩
  rw [W88_2_eq]
  simp (maxSteps := 2000000) (disch := omega) only [stp, ← decide_not, vEqz, eqz, vEqa, eqList, eqAtom, H.at, H.load, vBox, vNewSl, vBld, fill, Mx.part, vClear, vCopy, vBtos, source, lenV, V.isSl, Mx.room, slcut, cutOp, mkOp, bounds, natIn, H.kill, beq_self_eq_true, if_pos, if_neg, List.cons_append, List.nil_append, List.append_nil, List.length_cons, List.length_nil, List.length_set, List.take_succ_cons, List.take_zero, List.drop_succ_cons, List.drop_zero, List.take_nil, List.drop_nil, List.all_cons, List.all_nil, ite_self, if_true, if_false, ite_true, ite_false, reduceIte, reduceDIte, eq_self, ne_eq, gt_iff_lt, ge_iff_le, Option.map_some, Option.map_none, Nat.reduceAdd, Nat.reduceMul, Nat.reduceSub, Nat.reduceLT, Nat.reduceLeDiff, Nat.reduceEqDiff, Nat.reduceSucc, Int.reduceAdd, Int.reduceSub, Int.reduceMul, Int.reduceNeg, Int.reduceLT, Int.reduceLE, Int.reduceEq, Int.reduceNe, Int.reduceToNat, Int.reduceTMod, Int.reduceTDiv, Int.reduceFDiv, Int.reducePow, Nat.reduceMod, Nat.reduceAnd, Nat.reduceDiv, Nat.reducePow, L88_2]
  exact q h3 o3 ((k1.trans k2).trans k3)
theorem tick {h : H} {wr c : Nat} {now a : Int} (o : On h wr now a c) (hnow : 0 ≤ now ∧ now < 1099511627776) (ha : 0 ≤ a ∧ a ≤ 1099511627776) {Q : V → H → Prop} (q : ∀ h', On h' wr (now + 1) a (tk a (now + 1) c) → Kw h wr h' → Q (.tup []) h') :
    @wF IP 88 [.p (some (wr, 0))] h ⟨Q⟩ := by
  obtain ⟨row, g0, hl, w0, ly, o1, w1, hl1⟩ := o.time (now + 1)
  have kw1 : Kw h wr (h.put wr (some ⟨false, row.set 0 (.i .i64 (now + 1))⟩)) := Kw.put ((Ext.refl h).kw wr) _
  obtain ⟨row2, g2, _, _, hn2, ⟨id, hc2, _, _, _⟩, _, _, hcc⟩ := o1.now
  rw [H.get_put, if_pos rfl] at g2
  cases g2
  by_cases h49 : c = 49
  · subst h49
    simp (maxSteps := 2000000) (disch := omega) only [stp, ← decide_not, vEqz, eqz, vEqa, eqList, eqAtom, H.at, H.load, vBox, vNewSl, vBld, fill, Mx.part, vClear, vCopy, vBtos, source, lenV, V.isSl, Mx.room, slcut, cutOp, mkOp, bounds, natIn, H.kill, beq_self_eq_true, if_pos, if_neg, List.cons_append, List.nil_append, List.append_nil, List.length_cons, List.length_nil, List.length_set, List.take_succ_cons, List.take_zero, List.drop_succ_cons, List.drop_zero, List.take_nil, List.drop_nil, List.all_cons, List.all_nil, ite_self, if_true, if_false, ite_true, ite_false, reduceIte, reduceDIte, eq_self, ne_eq, gt_iff_lt, ge_iff_le, Option.map_some, Option.map_none, Nat.reduceAdd, Nat.reduceMul, Nat.reduceSub, Nat.reduceLT, Nat.reduceLeDiff, Nat.reduceEqDiff, Nat.reduceSucc, Int.reduceAdd, Int.reduceSub, Int.reduceMul, Int.reduceNeg, Int.reduceLT, Int.reduceLE, Int.reduceEq, Int.reduceNe, Int.reduceToNat, Int.reduceTMod, Int.reduceTDiv, Int.reduceFDiv, Int.reducePow, Nat.reduceMod, Nat.reduceAnd, Nat.reduceDiv, Nat.reducePow, f88, K88_3, K88_1, K88, g0, w0, ly, hl, hc2]
    refine nearer_hit o1 (by omega) ha (fun h1 o2 k2 => ?_)
    simp (maxSteps := 2000000) (disch := omega) only [stp, ← decide_not, vEqz, eqz, vEqa, eqList, eqAtom, H.at, H.load, vBox, vNewSl, vBld, fill, Mx.part, vClear, vCopy, vBtos, source, lenV, V.isSl, Mx.room, slcut, cutOp, mkOp, bounds, natIn, H.kill, beq_self_eq_true, if_pos, if_neg, List.cons_append, List.nil_append, List.append_nil, List.length_cons, List.length_nil, List.length_set, List.take_succ_cons, List.take_zero, List.drop_succ_cons, List.drop_zero, List.take_nil, List.drop_nil, List.all_cons, List.all_nil, ite_self, if_true, if_false, ite_true, ite_false, reduceIte, reduceDIte, eq_self, ne_eq, gt_iff_lt, ge_iff_le, Option.map_some, Option.map_none, Nat.reduceAdd, Nat.reduceMul, Nat.reduceSub, Nat.reduceLT, Nat.reduceLeDiff, Nat.reduceEqDiff, Nat.reduceSucc, Int.reduceAdd, Int.reduceSub, Int.reduceMul, Int.reduceNeg, Int.reduceLT, Int.reduceLE, Int.reduceEq, Int.reduceNe, Int.reduceToNat, Int.reduceTMod, Int.reduceTDiv, Int.reduceFDiv, Int.reducePow, Nat.reduceMod, Nat.reduceAnd, Nat.reduceDiv, Nat.reducePow, K88_1]
    refine tick_loop o2 (by omega) ha (fun h3 o3 k3 => q h3 ?_ ((kw1.trans k2).trans k3))
    unfold tk
    rw [if_pos rfl]
    exact o3
  · have c49 := hn2 49 (by omega) (by omega) (Ne.symm h49)
    simp (maxSteps := 2000000) (disch := omega) only [stp, ← decide_not, vEqz, eqz, vEqa, eqList, eqAtom, H.at, H.load, vBox, vNewSl, vBld, fill, Mx.part, vClear, vCopy, vBtos, source, lenV, V.isSl, Mx.room, slcut, cutOp, mkOp, bounds, natIn, H.kill, beq_self_eq_true, if_pos, if_neg, List.cons_append, List.nil_append, List.append_nil, List.length_cons, List.length_nil, List.length_set, List.take_succ_cons, List.take_zero, List.drop_succ_cons, List.drop_zero, List.take_nil, List.drop_nil, List.all_cons, List.all_nil, ite_self, if_true, if_false, ite_true, ite_false, reduceIte, reduceDIte, eq_self, ne_eq, gt_iff_lt, ge_iff_le, Option.map_some, Option.map_none, Nat.reduceAdd, Nat.reduceMul, Nat.reduceSub, Nat.reduceLT, Nat.reduceLeDiff, Nat.reduceEqDiff, Nat.reduceSucc, Int.reduceAdd, Int.reduceSub, Int.reduceMul, Int.reduceNeg, Int.reduceLT, Int.reduceLE, Int.reduceEq, Int.reduceNe, Int.reduceToNat, Int.reduceTMod, Int.reduceTDiv, Int.reduceFDiv, Int.reducePow, Nat.reduceMod, Nat.reduceAnd, Nat.reduceDiv, Nat.reducePow, f88, K88_3, K88_1, K88, g0, w0, ly, hl, c49, K88_1]
    refine tick_loop o1 (by omega) ha (fun h3 o3 k3 => q h3 ?_ (kw1.trans k3))
    unfold tk
    rw [if_neg h49]
    exact o3
/-- it is where it will be found in time -/
def Gd (a now : Int) (c : Nat) : Prop := c = 49 ∧ 4096 ≤ a - now ∨ c = 1 + (a / 1 % 16).toNat ∧ now < a ∧ a ≤ now + 16 ∨ c = 17 + (a / 16 % 16).toNat ∧ now / 16 < a / 16 ∧ a / 16 ≤ now / 16 + 16 ∨ c = 33 + (a / 256 % 16).toNat ∧ now / 256 < a / 256 ∧ a / 256 ≤ now / 256 + 16
theorem gd_lay {a now : Int} (h0 : 0 ≤ now) (h : now < a) : Gd a now (cx a now) := by
  unfold cx cell Gd
  rw [if_neg (by omega)]
  split
  · right; left; omega
  · split
    · right; right; left; omega
    · split
      · right; right; right; omega
      · left; omega
theorem sc_cx (a t : Int) (n : Nat) (w : Int) : sc a t n w (cx a t) = cx a t := by unfold sc; split <;> rfl
theorem sc_no {a t : Int} {n : Nat} {w : Int} {c : Nat} (h : c ≠ 1 + n * 16 + (t / w % 16).toNat) : sc a t n w c = c := by unfold sc; rw [if_neg (fun e => h e.2)]
theorem gd_tick {a t : Int} {c : Nat} (h0 : 1 ≤ t) (h : t ≤ a) (g : Gd a (t - 1) c) : (t < a → Gd a t (tk a t c)) ∧ (t = a → tk a t c = 50) := by
  have hcx : t = a → cx a t = 50 := fun e => by unfold cx; rw [if_pos (by omega)]
  have hgl : t < a → Gd a t (cx a t) := fun e => gd_lay (by omega) e
  rcases g with ⟨rfl, g⟩ | ⟨hc, g1, g2⟩ | ⟨hc, g1, g2⟩ | ⟨hc, g1, g2⟩
  · have e : tk a t 49 = cx a t := by unfold tk; rw [if_pos rfl, sc_cx, sc_cx, sc_cx]
    rw [e]
    exact ⟨hgl, hcx⟩
  · have e : tk a t c = sc a t 0 1 c := by unfold tk; rw [if_neg (by omega), sc_no (n := 2) (by omega), sc_no (n := 1) (by omega)]
    rw [e]
    by_cases hk : c = 1 + 0 * 16 + (t / 1 % 16).toNat
    · have e2 : sc a t 0 1 c = cx a t := by unfold sc; rw [if_pos ⟨by omega, hk⟩]
      rw [e2]
      exact ⟨hgl, hcx⟩
    · rw [sc_no hk]
      exact ⟨fun hl => .inr (.inl ⟨hc, hl, by omega⟩), fun he => by subst he; omega⟩
  · have e : tk a t c = sc a t 0 1 (sc a t 1 16 c) := by unfold tk; rw [if_neg (by omega), sc_no (n := 2) (by omega)]
    rw [e]
    by_cases hk : t % 16 = 0 ∧ c = 1 + 1 * 16 + (t / 16 % 16).toNat
    · have e2 : sc a t 1 16 c = cx a t := by unfold sc; rw [if_pos hk]
      rw [e2, sc_cx]
      exact ⟨hgl, hcx⟩
    · have e2 : sc a t 1 16 c = c := by unfold sc; rw [if_neg hk]
      rw [e2, sc_no (by omega)]
      exact ⟨fun hl => .inr (.inr (.inl ⟨hc, by omega, by omega⟩)), fun he => by subst he; omega⟩
  · have e : tk a t c = sc a t 0 1 (sc a t 1 16 (sc a t 2 256 c)) := by unfold tk; rw [if_neg (by omega)]
    rw [e]
    by_cases hk : t % 256 = 0 ∧ c = 1 + 2 * 16 + (t / 256 % 16).toNat
    · have e2 : sc a t 2 256 c = cx a t := by unfold sc; rw [if_pos hk]
      rw [e2, sc_cx, sc_cx]
      exact ⟨hgl, hcx⟩
    · have e2 : sc a t 2 256 c = c := by unfold sc; rw [if_neg hk]
      rw [e2, sc_no (n := 1) (by omega), sc_no (by omega)]
      exact ⟨fun hl => .inr (.inr (.inr ⟨hc, by omega, by omega⟩)), fun he => by subst he; omega⟩
/-! ### many ticks -/
def JmJ (h0 : H) (wr L : Nat) (t a : Int) (m : Nat) (x0 x4 x12 x15 : V) (h : H) : Prop := ∃ k c : Nat, x0 = .p (some (wr, 0)) ∧ x4 = .i .i64 L ∧ x12 = .i .i64 L ∧ x15 = .i .i64 k ∧ k ≤ 16 ∧ m = 16 - k ∧ On h wr t a c ∧ (c = cx a t ∨ 1 + L * 16 + k ≤ c ∧ c ≤ 48) ∧ Kw h0 wr h
def JmI (h0 : H) (wr : Nat) (t a : Int) (m : Nat) (x0 x12 : V) (h : H) : Prop := ∃ L c : Nat, x0 = .p (some (wr, 0)) ∧ x12 = .i .i64 L ∧ L ≤ 3 ∧ m = 3 - L ∧ On h wr t a c ∧ (c = cx a t ∨ 1 + L * 16 ≤ c ∧ c ≤ 48) ∧ Kw h0 wr h
theorem jump {h : H} {wr c : Nat} {now a t : Int} (o : On h wr now a c) (hc50 : c ≤ 49) (ht : 0 ≤ t ∧ t ≤ 1099511627776) (ha : 0 ≤ a ∧ a ≤ 1099511627776) {Q : V → H → Prop} (q : ∀ h', On h' wr t a (cx a t) → Kw h wr h' → Q (.tup []) h') :
    @wF IP 87 [.p (some (wr, 0)), .i .i64 t] h ⟨Q⟩ := by
  obtain ⟨row, g0, hl, w0, ly, o1, w1, hl1⟩ := o.time t
  have kw1 : Kw h wr (h.put wr (some ⟨false, row.set 0 (.i .i64 t)⟩)) := Kw.put ((Ext.refl h).kw wr) _
  have hcc := o1.now
  obtain ⟨_, _, _, _, _, _, _, _, hc1, hc2⟩ := hcc
  have main : ∀ {h1 : H} {c1 : Nat}, On h1 wr t a c1 → (c1 = cx a t ∨ 1 ≤ c1 ∧ c1 ≤ 48) → Kw h wr h1 → @W87_1 (.p (some (wr, 0))) (.i .i64 0) h1 ⟨Q⟩ := by
    intro h1 c1 o2 hcx k2
    refine W87_1_inv (JmI h wr t a) ?_ 3 _ _ _ ⟨0, c1, rfl, rfl, by omega, by omega, o2, by omega, k2⟩
    rintro m _ _ h5 ⟨L, c5, rfl, rfl, hL, rfl, o5, e5, k5⟩
    by_cases hL3 : L < 3
    · simp (maxSteps := 2000000) (disch := omega) only [stp, ← decide_not, vEqz, eqz, vEqa, eqList, eqAtom, H.at, H.load, vBox, vNewSl, vBld, fill, Mx.part, vClear, vCopy, vBtos, source, lenV, V.isSl, Mx.room, slcut, cutOp, mkOp, bounds, natIn, H.kill, beq_self_eq_true, if_pos, if_neg, List.cons_append, List.nil_append, List.append_nil, List.length_cons, List.length_nil, List.length_set, List.take_succ_cons, List.take_zero, List.drop_succ_cons, List.drop_zero, List.take_nil, List.drop_nil, List.all_cons, List.all_nil, ite_self, if_true, if_false, ite_true, ite_false, reduceIte, reduceDIte, eq_self, ne_eq, gt_iff_lt, ge_iff_le, Option.map_some, Option.map_none, Nat.reduceAdd, Nat.reduceMul, Nat.reduceSub, Nat.reduceLT, Nat.reduceLeDiff, Nat.reduceEqDiff, Nat.reduceSucc, Int.reduceAdd, Int.reduceSub, Int.reduceMul, Int.reduceNeg, Int.reduceLT, Int.reduceLE, Int.reduceEq, Int.reduceNe, Int.reduceToNat, Int.reduceTMod, Int.reduceTDiv, Int.reduceFDiv, Int.reducePow, Nat.reduceMod, Nat.reduceAnd, Nat.reduceDiv, Nat.reducePow, L87_1]
      refine W87_3_inv (JmJ h wr L t a) ?_ 16 _ _ _ _ _ ⟨0, c5, rfl, rfl, rfl, rfl, by omega, by omega, o5, by omega, k5⟩
      rintro m _ _ _ _ h6 ⟨k, c6, rfl, rfl, rfl, rfl, hk, rfl, o6, e6, k6⟩
      by_cases hk16 : k < 16
      · simp (maxSteps := 2000000) (disch := omega) only [stp, ← decide_not, vEqz, eqz, vEqa, eqList, eqAtom, H.at, H.load, vBox, vNewSl, vBld, fill, Mx.part, vClear, vCopy, vBtos, source, lenV, V.isSl, Mx.room, slcut, cutOp, mkOp, bounds, natIn, H.kill, beq_self_eq_true, if_pos, if_neg, List.cons_append, List.nil_append, List.append_nil, List.length_cons, List.length_nil, List.length_set, List.take_succ_cons, List.take_zero, List.drop_succ_cons, List.drop_zero, List.take_nil, List.drop_nil, List.all_cons, List.all_nil, ite_self, if_true, if_false, ite_true, ite_false, reduceIte, reduceDIte, eq_self, ne_eq, gt_iff_lt, ge_iff_le, Option.map_some, Option.map_none, Nat.reduceAdd, Nat.reduceMul, Nat.reduceSub, Nat.reduceLT, Nat.reduceLeDiff, Nat.reduceEqDiff, Nat.reduceSucc, Int.reduceAdd, Int.reduceSub, Int.reduceMul, Int.reduceNeg, Int.reduceLT, Int.reduceLE, Int.reduceEq, Int.reduceNe, Int.reduceToNat, Int.reduceTMod, Int.reduceTDiv, Int.reduceFDiv, Int.reducePow, Nat.reduceMod, Nat.reduceAnd, Nat.reduceDiv, Nat.reducePow, L87_3]
        refine again_any (s := k) hL3 ⟨by omega, by omega⟩ o6 ht.1 ha (fun h7 o7 k7 => ?_)
        simp (maxSteps := 2000000) (disch := omega) only [stp, ← decide_not, vEqz, eqz, vEqa, eqList, eqAtom, H.at, H.load, vBox, vNewSl, vBld, fill, Mx.part, vClear, vCopy, vBtos, source, lenV, V.isSl, Mx.room, slcut, cutOp, mkOp, bounds, natIn, H.kill, beq_self_eq_true, if_pos, if_neg, List.cons_append, List.nil_append, List.append_nil, List.length_cons, List.length_nil, List.length_set, List.take_succ_cons, List.take_zero, List.drop_succ_cons, List.drop_zero, List.take_nil, List.drop_nil, List.all_cons, List.all_nil, ite_self, if_true, if_false, ite_true, ite_false, reduceIte, reduceDIte, eq_self, ne_eq, gt_iff_lt, ge_iff_le, Option.map_some, Option.map_none, Nat.reduceAdd, Nat.reduceMul, Nat.reduceSub, Nat.reduceLT, Nat.reduceLeDiff, Nat.reduceEqDiff, Nat.reduceSucc, Int.reduceAdd, Int.reduceSub, Int.reduceMul, Int.reduceNeg, Int.reduceLT, Int.reduceLE, Int.reduceEq, Int.reduceNe, Int.reduceToNat, Int.reduceTMod, Int.reduceTDiv, Int.reduceFDiv, Int.reducePow, Nat.reduceMod, Nat.reduceAnd, Nat.reduceDiv, Nat.reducePow, ]
        refine ⟨16 - (k + 1), by omega, k + 1, _, rfl, rfl, rfl, rfl, by omega, rfl, o7, ?_, k6.trans k7⟩
        rw [Int.toNat_natCast]
        split
        · exact .inl rfl
        · omega
      · have : k = 16 := by omega
        subst this
        simp (maxSteps := 2000000) (disch := omega) only [stp, ← decide_not, vEqz, eqz, vEqa, eqList, eqAtom, H.at, H.load, vBox, vNewSl, vBld, fill, Mx.part, vClear, vCopy, vBtos, source, lenV, V.isSl, Mx.room, slcut, cutOp, mkOp, bounds, natIn, H.kill, beq_self_eq_true, if_pos, if_neg, List.cons_append, List.nil_append, List.append_nil, List.length_cons, List.length_nil, List.length_set, List.take_succ_cons, List.take_zero, List.drop_succ_cons, List.drop_zero, List.take_nil, List.drop_nil, List.all_cons, List.all_nil, ite_self, if_true, if_false, ite_true, ite_false, reduceIte, reduceDIte, eq_self, ne_eq, gt_iff_lt, ge_iff_le, Option.map_some, Option.map_none, Nat.reduceAdd, Nat.reduceMul, Nat.reduceSub, Nat.reduceLT, Nat.reduceLeDiff, Nat.reduceEqDiff, Nat.reduceSucc, Int.reduceAdd, Int.reduceSub, Int.reduceMul, Int.reduceNeg, Int.reduceLT, Int.reduceLE, Int.reduceEq, Int.reduceNe, Int.reduceToNat, Int.reduceTMod, Int.reduceTDiv, Int.reduceFDiv, Int.reducePow, Nat.reduceMod, Nat.reduceAnd, Nat.reduceDiv, Nat.reducePow, L87_3, K87_2]
        exact ⟨3 - (L + 1), by omega, L + 1, c6, rfl, rfl, by omega, rfl, o6, by omega, k6⟩
    · have : L = 3 := by omega
      subst this
      simp (maxSteps := 2000000) (disch := omega) only [stp, ← decide_not, vEqz, eqz, vEqa, eqList, eqAtom, H.at, H.load, vBox, vNewSl, vBld, fill, Mx.part, vClear, vCopy, vBtos, source, lenV, V.isSl, Mx.room, slcut, cutOp, mkOp, bounds, natIn, H.kill, beq_self_eq_true, if_pos, if_neg, List.cons_append, List.nil_append, List.append_nil, List.length_cons, List.length_nil, List.length_set, List.take_succ_cons, List.take_zero, List.drop_succ_cons, List.drop_zero, List.take_nil, List.drop_nil, List.all_cons, List.all_nil, ite_self, if_true, if_false, ite_true, ite_false, reduceIte, reduceDIte, eq_self, ne_eq, gt_iff_lt, ge_iff_le, Option.map_some, Option.map_none, Nat.reduceAdd, Nat.reduceMul, Nat.reduceSub, Nat.reduceLT, Nat.reduceLeDiff, Nat.reduceEqDiff, Nat.reduceSucc, Int.reduceAdd, Int.reduceSub, Int.reduceMul, Int.reduceNeg, Int.reduceLT, Int.reduceLE, Int.reduceEq, Int.reduceNe, Int.reduceToNat, Int.reduceTMod, Int.reduceTDiv, Int.reduceFDiv, Int.reducePow, Nat.reduceMod, Nat.reduceAnd, Nat.reduceDiv, Nat.reducePow, L87_1]
      have : c5 = cx a t := by omega
      subst this
      exact q h5 o5 k5
  simp (maxSteps := 2000000) (disch := omega) only [stp, ← decide_not, vEqz, eqz, vEqa, eqList, eqAtom, H.at, H.load, vBox, vNewSl, vBld, fill, Mx.part, vClear, vCopy, vBtos, source, lenV, V.isSl, Mx.room, slcut, cutOp, mkOp, bounds, natIn, H.kill, beq_self_eq_true, if_pos, if_neg, List.cons_append, List.nil_append, List.append_nil, List.length_cons, List.length_nil, List.length_set, List.take_succ_cons, List.take_zero, List.drop_succ_cons, List.drop_zero, List.take_nil, List.drop_nil, List.all_cons, List.all_nil, ite_self, if_true, if_false, ite_true, ite_false, reduceIte, reduceDIte, eq_self, ne_eq, gt_iff_lt, ge_iff_le, Option.map_some, Option.map_none, Nat.reduceAdd, Nat.reduceMul, Nat.reduceSub, Nat.reduceLT, Nat.reduceLeDiff, Nat.reduceEqDiff, Nat.reduceSucc, Int.reduceAdd, Int.reduceSub, Int.reduceMul, Int.reduceNeg, Int.reduceLT, Int.reduceLE, Int.reduceEq, Int.reduceNe, Int.reduceToNat, Int.reduceTMod, Int.reduceTDiv, Int.reduceFDiv, Int.reducePow, Nat.reduceMod, Nat.reduceAnd, Nat.reduceDiv, Nat.reducePow, f87, K87_2, K87, g0, ly, hl]
  by_cases h49 : c = 49
  · subst h49
    refine nearer_hit o1 ht.1 ha (fun h1 o2 k2 => ?_)
    exact main o2 (.inl rfl) (kw1.trans k2)
  · refine nearer_miss o1 (Ne.symm h49) (fun h1 o2 k2 => ?_)
    exact main o2 (.inr ⟨hc1, by omega⟩) (kw1.trans k2)
def LoopA (h0 : H) (wr : Nat) (t a : Int) (m : Nat) (x0 x1 : V) (h : H) : Prop := ∃ (now : Int) (c : Nat), x0 = .p (some (wr, 0)) ∧ x1 = .i .i64 t ∧ On h wr now a c ∧ 0 ≤ now ∧ now ≤ t ∧ m = (t - now).toNat ∧ (now < a → Gd a now c) ∧ (now = a → c = 50) ∧ Kw h0 wr h
theorem advance {h : H} {wr c : Nat} {now a t : Int} (o : On h wr now a c) (h0 : 0 ≤ now) (g : now < a → Gd a now c) (e : now = a → c = 50) (ht : now ≤ t ∧ t ≤ a) (ha : a ≤ 1099511627776) {Q : V → H → Prop} (q : ∀ h' c', On h' wr t a c' → (t < a → Gd a t c') → (t = a → c' = 50) → Kw h wr h' → Q (.tup []) h') :
    @wF IP 35 [.p (some (wr, 0)), .i .i64 t] h ⟨Q⟩ := by
  obtain ⟨row, g0, hl, w0, _, _, hwl, _⟩ := o.now
  by_cases hle : t ≤ now
  · have : t = now := by omega
    subst this
    simp (maxSteps := 2000000) (disch := omega) only [stp, ← decide_not, vEqz, eqz, vEqa, eqList, eqAtom, H.at, H.load, vBox, vNewSl, vBld, fill, Mx.part, vClear, vCopy, vBtos, source, lenV, V.isSl, Mx.room, slcut, cutOp, mkOp, bounds, natIn, H.kill, beq_self_eq_true, if_pos, if_neg, List.cons_append, List.nil_append, List.append_nil, List.length_cons, List.length_nil, List.length_set, List.take_succ_cons, List.take_zero, List.drop_succ_cons, List.drop_zero, List.take_nil, List.drop_nil, List.all_cons, List.all_nil, ite_self, if_true, if_false, ite_true, ite_false, reduceIte, reduceDIte, eq_self, ne_eq, gt_iff_lt, ge_iff_le, Option.map_some, Option.map_none, Nat.reduceAdd, Nat.reduceMul, Nat.reduceSub, Nat.reduceLT, Nat.reduceLeDiff, Nat.reduceEqDiff, Nat.reduceSucc, Int.reduceAdd, Int.reduceSub, Int.reduceMul, Int.reduceNeg, Int.reduceLT, Int.reduceLE, Int.reduceEq, Int.reduceNe, Int.reduceToNat, Int.reduceTMod, Int.reduceTDiv, Int.reduceFDiv, Int.reducePow, Nat.reduceMod, Nat.reduceAnd, Nat.reduceDiv, Nat.reducePow, f35, K35_2, K35_1, K35_4, K35_8, K35, f86, K86, K35_2, K35_1, K35_4, K35_8, K35, g0, w0]
    exact q h c o g e ((Ext.refl h).kw wr)
  · by_cases hj : 4096 ≤ t - now
    · have hc49 : c ≤ 49 := by
        have := g (by omega)
        unfold Gd at this
        omega
      simp (maxSteps := 2000000) (disch := omega) only [stp, ← decide_not, vEqz, eqz, vEqa, eqList, eqAtom, H.at, H.load, vBox, vNewSl, vBld, fill, Mx.part, vClear, vCopy, vBtos, source, lenV, V.isSl, Mx.room, slcut, cutOp, mkOp, bounds, natIn, H.kill, beq_self_eq_true, if_pos, if_neg, List.cons_append, List.nil_append, List.append_nil, List.length_cons, List.length_nil, List.length_set, List.take_succ_cons, List.take_zero, List.drop_succ_cons, List.drop_zero, List.take_nil, List.drop_nil, List.all_cons, List.all_nil, ite_self, if_true, if_false, ite_true, ite_false, reduceIte, reduceDIte, eq_self, ne_eq, gt_iff_lt, ge_iff_le, Option.map_some, Option.map_none, Nat.reduceAdd, Nat.reduceMul, Nat.reduceSub, Nat.reduceLT, Nat.reduceLeDiff, Nat.reduceEqDiff, Nat.reduceSucc, Int.reduceAdd, Int.reduceSub, Int.reduceMul, Int.reduceNeg, Int.reduceLT, Int.reduceLE, Int.reduceEq, Int.reduceNe, Int.reduceToNat, Int.reduceTMod, Int.reduceTDiv, Int.reduceFDiv, Int.reducePow, Nat.reduceMod, Nat.reduceAnd, Nat.reduceDiv, Nat.reducePow, f35, K35_2, K35_1, K35_4, K35_8, K35, f86, K86, K35_2, K35_1, K35_4, K35_8, K35, g0, w0]
      refine jump o hc49 (by omega) (by omega) (fun h1 o1 k1 => ?_)
      obtain ⟨row1, g1, hl1, w1, _, _, hwl1, _⟩ := o1.now
      simp (maxSteps := 2000000) (disch := omega) only [stp, ← decide_not, vEqz, eqz, vEqa, eqList, eqAtom, H.at, H.load, vBox, vNewSl, vBld, fill, Mx.part, vClear, vCopy, vBtos, source, lenV, V.isSl, Mx.room, slcut, cutOp, mkOp, bounds, natIn, H.kill, beq_self_eq_true, if_pos, if_neg, List.cons_append, List.nil_append, List.append_nil, List.length_cons, List.length_nil, List.length_set, List.take_succ_cons, List.take_zero, List.drop_succ_cons, List.drop_zero, List.take_nil, List.drop_nil, List.all_cons, List.all_nil, ite_self, if_true, if_false, ite_true, ite_false, reduceIte, reduceDIte, eq_self, ne_eq, gt_iff_lt, ge_iff_le, Option.map_some, Option.map_none, Nat.reduceAdd, Nat.reduceMul, Nat.reduceSub, Nat.reduceLT, Nat.reduceLeDiff, Nat.reduceEqDiff, Nat.reduceSucc, Int.reduceAdd, Int.reduceSub, Int.reduceMul, Int.reduceNeg, Int.reduceLT, Int.reduceLE, Int.reduceEq, Int.reduceNe, Int.reduceToNat, Int.reduceTMod, Int.reduceTDiv, Int.reduceFDiv, Int.reducePow, Nat.reduceMod, Nat.reduceAnd, Nat.reduceDiv, Nat.reducePow, K35_2]
      rw [W35_3_eq]
      simp (maxSteps := 2000000) (disch := omega) only [stp, ← decide_not, vEqz, eqz, vEqa, eqList, eqAtom, H.at, H.load, vBox, vNewSl, vBld, fill, Mx.part, vClear, vCopy, vBtos, source, lenV, V.isSl, Mx.room, slcut, cutOp, mkOp, bounds, natIn, H.kill, beq_self_eq_true, if_pos, if_neg, List.cons_append, List.nil_append, List.append_nil, List.length_cons, List.length_nil, List.length_set, List.take_succ_cons, List.take_zero, List.drop_succ_cons, List.drop_zero, List.take_nil, List.drop_nil, List.all_cons, List.all_nil, ite_self, if_true, if_false, ite_true, ite_false, reduceIte, reduceDIte, eq_self, ne_eq, gt_iff_lt, ge_iff_le, Option.map_some, Option.map_none, Nat.reduceAdd, Nat.reduceMul, Nat.reduceSub, Nat.reduceLT, Nat.reduceLeDiff, Nat.reduceEqDiff, Nat.reduceSucc, Int.reduceAdd, Int.reduceSub, Int.reduceMul, Int.reduceNeg, Int.reduceLT, Int.reduceLE, Int.reduceEq, Int.reduceNe, Int.reduceToNat, Int.reduceTMod, Int.reduceTDiv, Int.reduceFDiv, Int.reducePow, Nat.reduceMod, Nat.reduceAnd, Nat.reduceDiv, Nat.reducePow, L35_3, g1, w1]
      exact q h1 _ o1 (fun hlt => gd_lay (by omega) hlt) (fun he => by unfold cx; rw [if_pos (by omega)]) k1
    · simp (maxSteps := 2000000) (disch := omega) only [stp, ← decide_not, vEqz, eqz, vEqa, eqList, eqAtom, H.at, H.load, vBox, vNewSl, vBld, fill, Mx.part, vClear, vCopy, vBtos, source, lenV, V.isSl, Mx.room, slcut, cutOp, mkOp, bounds, natIn, H.kill, beq_self_eq_true, if_pos, if_neg, List.cons_append, List.nil_append, List.append_nil, List.length_cons, List.length_nil, List.length_set, List.take_succ_cons, List.take_zero, List.drop_succ_cons, List.drop_zero, List.take_nil, List.drop_nil, List.all_cons, List.all_nil, ite_self, if_true, if_false, ite_true, ite_false, reduceIte, reduceDIte, eq_self, ne_eq, gt_iff_lt, ge_iff_le, Option.map_some, Option.map_none, Nat.reduceAdd, Nat.reduceMul, Nat.reduceSub, Nat.reduceLT, Nat.reduceLeDiff, Nat.reduceEqDiff, Nat.reduceSucc, Int.reduceAdd, Int.reduceSub, Int.reduceMul, Int.reduceNeg, Int.reduceLT, Int.reduceLE, Int.reduceEq, Int.reduceNe, Int.reduceToNat, Int.reduceTMod, Int.reduceTDiv, Int.reduceFDiv, Int.reducePow, Nat.reduceMod, Nat.reduceAnd, Nat.reduceDiv, Nat.reducePow, f35, K35_2, K35_1, K35_4, K35_8, K35, f86, K86, K35_2, K35_1, K35_4, K35_8, K35, g0, w0]
      refine W35_3_inv (LoopA h wr t a) ?_ (t - now).toNat _ _ _ ⟨now, c, rfl, rfl, o, h0, by omega, rfl, g, e, (Ext.refl h).kw wr⟩
      rintro m _ _ h1 ⟨n1, c1, rfl, rfl, o1, hn0, hnt, rfl, gd1, e1, k1⟩
      obtain ⟨row1, g1, hl1, w1, _, _, hwl1, _⟩ := o1.now
      by_cases hlt : n1 < t
      · simp (maxSteps := 2000000) (disch := omega) only [stp, ← decide_not, vEqz, eqz, vEqa, eqList, eqAtom, H.at, H.load, vBox, vNewSl, vBld, fill, Mx.part, vClear, vCopy, vBtos, source, lenV, V.isSl, Mx.room, slcut, cutOp, mkOp, bounds, natIn, H.kill, beq_self_eq_true, if_pos, if_neg, List.cons_append, List.nil_append, List.append_nil, List.length_cons, List.length_nil, List.length_set, List.take_succ_cons, List.take_zero, List.drop_succ_cons, List.drop_zero, List.take_nil, List.drop_nil, List.all_cons, List.all_nil, ite_self, if_true, if_false, ite_true, ite_false, reduceIte, reduceDIte, eq_self, ne_eq, gt_iff_lt, ge_iff_le, Option.map_some, Option.map_none, Nat.reduceAdd, Nat.reduceMul, Nat.reduceSub, Nat.reduceLT, Nat.reduceLeDiff, Nat.reduceEqDiff, Nat.reduceSucc, Int.reduceAdd, Int.reduceSub, Int.reduceMul, Int.reduceNeg, Int.reduceLT, Int.reduceLE, Int.reduceEq, Int.reduceNe, Int.reduceToNat, Int.reduceTMod, Int.reduceTDiv, Int.reduceFDiv, Int.reducePow, Nat.reduceMod, Nat.reduceAnd, Nat.reduceDiv, Nat.reducePow, L35_3, g1, w1]
        refine tick o1 (by omega) (by omega) (fun h2 o2 k2 => ?_)
        simp (maxSteps := 2000000) (disch := omega) only [stp, ← decide_not, vEqz, eqz, vEqa, eqList, eqAtom, H.at, H.load, vBox, vNewSl, vBld, fill, Mx.part, vClear, vCopy, vBtos, source, lenV, V.isSl, Mx.room, slcut, cutOp, mkOp, bounds, natIn, H.kill, beq_self_eq_true, if_pos, if_neg, List.cons_append, List.nil_append, List.append_nil, List.length_cons, List.length_nil, List.length_set, List.take_succ_cons, List.take_zero, List.drop_succ_cons, List.drop_zero, List.take_nil, List.drop_nil, List.all_cons, List.all_nil, ite_self, if_true, if_false, ite_true, ite_false, reduceIte, reduceDIte, eq_self, ne_eq, gt_iff_lt, ge_iff_le, Option.map_some, Option.map_none, Nat.reduceAdd, Nat.reduceMul, Nat.reduceSub, Nat.reduceLT, Nat.reduceLeDiff, Nat.reduceEqDiff, Nat.reduceSucc, Int.reduceAdd, Int.reduceSub, Int.reduceMul, Int.reduceNeg, Int.reduceLT, Int.reduceLE, Int.reduceEq, Int.reduceNe, Int.reduceToNat, Int.reduceTMod, Int.reduceTDiv, Int.reduceFDiv, Int.reducePow, Nat.reduceMod, Nat.reduceAnd, Nat.reduceDiv, Nat.reducePow, ]
        have gt := gd_tick (t := n1 + 1) (a := a) (c := c1) (by omega) (by omega) (by rw [Int.add_sub_cancel]; exact gd1 (by omega))
        exact ⟨(t - (n1 + 1)).toNat, by omega, n1 + 1, _, rfl, rfl, o2, by omega, by omega, rfl, gt.1, gt.2, k1.trans k2⟩
      · have : n1 = t := by omega
        subst this
        simp (maxSteps := 2000000) (disch := omega) only [stp, ← decide_not, vEqz, eqz, vEqa, eqList, eqAtom, H.at, H.load, vBox, vNewSl, vBld, fill, Mx.part, vClear, vCopy, vBtos, source, lenV, V.isSl, Mx.room, slcut, cutOp, mkOp, bounds, natIn, H.kill, beq_self_eq_true, if_pos, if_neg, List.cons_append, List.nil_append, List.append_nil, List.length_cons, List.length_nil, List.length_set, List.take_succ_cons, List.take_zero, List.drop_succ_cons, List.drop_zero, List.take_nil, List.drop_nil, List.all_cons, List.all_nil, ite_self, if_true, if_false, ite_true, ite_false, reduceIte, reduceDIte, eq_self, ne_eq, gt_iff_lt, ge_iff_le, Option.map_some, Option.map_none, Nat.reduceAdd, Nat.reduceMul, Nat.reduceSub, Nat.reduceLT, Nat.reduceLeDiff, Nat.reduceEqDiff, Nat.reduceSucc, Int.reduceAdd, Int.reduceSub, Int.reduceMul, Int.reduceNeg, Int.reduceLT, Int.reduceLE, Int.reduceEq, Int.reduceNe, Int.reduceToNat, Int.reduceTMod, Int.reduceTDiv, Int.reduceFDiv, Int.reducePow, Nat.reduceMod, Nat.reduceAnd, Nat.reduceDiv, Nat.reducePow, L35_3, g1, w1]
        exact q h1 c1 o1 gd1 e1 k1
theorem app_es (id : Nat) (h : H) : vApp 6 48 (.es true) (.so id 6 6) h = some (.es true, h) := rfl
theorem take {h : H} {wr : Nat} {now a : Int} (o : On h wr now a 50) {Q : V → H → Prop} (q : ∀ h' row, h'.get wr = some ⟨false, row⟩ → row[51]? = some (.i .i64 0) → wr < h'.nx → Q (.tup [.agg (alm a 0), .b true]) h') :
    @wF IP 37 [.p (some (wr, 0))] h ⟨Q⟩ := by
  obtain ⟨row, g0, hl, w0, _, ⟨id, cc, gid, idl, idw⟩, hwl, wn, _⟩ := o.now
  have hne : wr ≠ h.nx := by omega
  have hne2 : id ≠ h.nx := by omega
  unfold ent at gid
  simp (maxSteps := 2000000) (disch := omega) only [stp, ← decide_not, vEqz, eqz, vEqa, eqList, eqAtom, H.at, H.load, vBox, vNewSl, vBld, fill, Mx.part, vClear, vCopy, vBtos, source, lenV, V.isSl, Mx.room, slcut, cutOp, mkOp, bounds, natIn, H.kill, beq_self_eq_true, if_pos, if_neg, List.cons_append, List.nil_append, List.append_nil, List.length_cons, List.length_nil, List.length_set, List.take_succ_cons, List.take_zero, List.drop_succ_cons, List.drop_zero, List.take_nil, List.drop_nil, List.all_cons, List.all_nil, ite_self, if_true, if_false, ite_true, ite_false, reduceIte, reduceDIte, eq_self, ne_eq, gt_iff_lt, ge_iff_le, Option.map_some, Option.map_none, Nat.reduceAdd, Nat.reduceMul, Nat.reduceSub, Nat.reduceLT, Nat.reduceLeDiff, Nat.reduceEqDiff, Nat.reduceSucc, Int.reduceAdd, Int.reduceSub, Int.reduceMul, Int.reduceNeg, Int.reduceLT, Int.reduceLE, Int.reduceEq, Int.reduceNe, Int.reduceToNat, Int.reduceTMod, Int.reduceTDiv, Int.reduceFDiv, Int.reducePow, Nat.reduceMod, Nat.reduceAnd, Nat.reduceDiv, Nat.reducePow, f37, K37_1, K37_3, K37, f42, K42, g0, cc, hne]
  rw [W37_2_eq]
  simp (maxSteps := 2000000) (disch := omega) only [stp, ← decide_not, vEqz, eqz, vEqa, eqList, eqAtom, H.at, H.load, vBox, vNewSl, vBld, fill, Mx.part, vClear, vCopy, vBtos, source, lenV, V.isSl, Mx.room, slcut, cutOp, mkOp, bounds, natIn, H.kill, beq_self_eq_true, if_pos, if_neg, List.cons_append, List.nil_append, List.append_nil, List.length_cons, List.length_nil, List.length_set, List.take_succ_cons, List.take_zero, List.drop_succ_cons, List.drop_zero, List.take_nil, List.drop_nil, List.all_cons, List.all_nil, ite_self, if_true, if_false, ite_true, ite_false, reduceIte, reduceDIte, eq_self, ne_eq, gt_iff_lt, ge_iff_le, Option.map_some, Option.map_none, Nat.reduceAdd, Nat.reduceMul, Nat.reduceSub, Nat.reduceLT, Nat.reduceLeDiff, Nat.reduceEqDiff, Nat.reduceSucc, Int.reduceAdd, Int.reduceSub, Int.reduceMul, Int.reduceNeg, Int.reduceLT, Int.reduceLE, Int.reduceEq, Int.reduceNe, Int.reduceToNat, Int.reduceTMod, Int.reduceTDiv, Int.reduceFDiv, Int.reducePow, Nat.reduceMod, Nat.reduceAnd, Nat.reduceDiv, Nat.reducePow, L37_2, gid, g0, cc, hne, hne2, idw, f90, K90_6, K90_7, K90_8, K90, K90_6, K90_7, K90_8, K90, K37_3]
  rw [W37_2_eq]
  have ly : lay row 50 [.es true] = row.set 50 (.es true) := lay1 _ (by omega)
  have r51 : (row.set 50 (V.es true))[51]? = some (.i .i64 1) := by rw [List.getElem?_set, if_neg (by omega)]; exact wn
  have ly2 : lay (row.set 50 (V.es true)) 51 [.i .i64 0] = (row.set 50 (.es true)).set 51 (.i .i64 0) := lay1 _ (by rw [List.length_set]; omega)
  have rl : (row.set 50 (V.es true)).length = 53 := by rw [List.length_set]; exact hl
  have r0 : ((row.set 50 (V.es true)).set 51 (.i .i64 0))[51]? = some (.i .i64 0) := by rw [List.getElem?_set, if_pos rfl, if_pos (by omega)]
  simp (maxSteps := 2000000) (disch := omega) only [stp, ← decide_not, vEqz, eqz, vEqa, eqList, eqAtom, H.at, H.load, vBox, vNewSl, vBld, fill, Mx.part, vClear, vCopy, vBtos, source, lenV, V.isSl, Mx.room, slcut, cutOp, mkOp, bounds, natIn, H.kill, beq_self_eq_true, if_pos, if_neg, List.cons_append, List.nil_append, List.append_nil, List.length_cons, List.length_nil, List.length_set, List.take_succ_cons, List.take_zero, List.drop_succ_cons, List.drop_zero, List.take_nil, List.drop_nil, List.all_cons, List.all_nil, ite_self, if_true, if_false, ite_true, ite_false, reduceIte, reduceDIte, eq_self, ne_eq, gt_iff_lt, ge_iff_le, Option.map_some, Option.map_none, Nat.reduceAdd, Nat.reduceMul, Nat.reduceSub, Nat.reduceLT, Nat.reduceLeDiff, Nat.reduceEqDiff, Nat.reduceSucc, Int.reduceAdd, Int.reduceSub, Int.reduceMul, Int.reduceNeg, Int.reduceLT, Int.reduceLE, Int.reduceEq, Int.reduceNe, Int.reduceToNat, Int.reduceTMod, Int.reduceTDiv, Int.reduceFDiv, Int.reducePow, Nat.reduceMod, Nat.reduceAnd, Nat.reduceDiv, Nat.reducePow, L37_2, K37_1, gid, g0, cc, hne, hne2, idw, app_es, ly, ly2, hl, rl, r51]
  exact q _ _ (by simp (maxSteps := 2000000) (disch := omega) only [stp, ← decide_not, vEqz, eqz, vEqa, eqList, eqAtom, H.at, H.load, vBox, vNewSl, vBld, fill, Mx.part, vClear, vCopy, vBtos, source, lenV, V.isSl, Mx.room, slcut, cutOp, mkOp, bounds, natIn, H.kill, beq_self_eq_true, if_pos, if_neg, List.cons_append, List.nil_append, List.append_nil, List.length_cons, List.length_nil, List.length_set, List.take_succ_cons, List.take_zero, List.drop_succ_cons, List.drop_zero, List.take_nil, List.drop_nil, List.all_cons, List.all_nil, ite_self, if_true, if_false, ite_true, ite_false, reduceIte, reduceDIte, eq_self, ne_eq, gt_iff_lt, ge_iff_le, Option.map_some, Option.map_none, Nat.reduceAdd, Nat.reduceMul, Nat.reduceSub, Nat.reduceLT, Nat.reduceLeDiff, Nat.reduceEqDiff, Nat.reduceSucc, Int.reduceAdd, Int.reduceSub, Int.reduceMul, Int.reduceNeg, Int.reduceLT, Int.reduceLE, Int.reduceEq, Int.reduceNe, Int.reduceToNat, Int.reduceTMod, Int.reduceTDiv, Int.reduceFDiv, Int.reducePow, Nat.reduceMod, Nat.reduceAnd, Nat.reduceDiv, Nat.reducePow, hne]) r0 (by simp (maxSteps := 2000000) (disch := omega) only [stp, ← decide_not, vEqz, eqz, vEqa, eqList, eqAtom, H.at, H.load, vBox, vNewSl, vBld, fill, Mx.part, vClear, vCopy, vBtos, source, lenV, V.isSl, Mx.room, slcut, cutOp, mkOp, bounds, natIn, H.kill, beq_self_eq_true, if_pos, if_neg, List.cons_append, List.nil_append, List.append_nil, List.length_cons, List.length_nil, List.length_set, List.take_succ_cons, List.take_zero, List.drop_succ_cons, List.drop_zero, List.take_nil, List.drop_nil, List.all_cons, List.all_nil, ite_self, if_true, if_false, ite_true, ite_false, reduceIte, reduceDIte, eq_self, ne_eq, gt_iff_lt, ge_iff_le, Option.map_some, Option.map_none, Nat.reduceAdd, Nat.reduceMul, Nat.reduceSub, Nat.reduceLT, Nat.reduceLeDiff, Nat.reduceEqDiff, Nat.reduceSucc, Int.reduceAdd, Int.reduceSub, Int.reduceMul, Int.reduceNeg, Int.reduceLT, Int.reduceLE, Int.reduceEq, Int.reduceNe, Int.reduceToNat, Int.reduceTMod, Int.reduceTDiv, Int.reduceFDiv, Int.reducePow, Nat.reduceMod, Nat.reduceAnd, Nat.reduceDiv, Nat.reducePow, ]; omega)
theorem put_first {h : H} {wr : Nat} {row : List V} {now a : Int} (g0 : h.get wr = some ⟨false, row⟩) (hwl : wr < h.nx) (wk : Wr row nil_ now 0 0) (hnow : 0 ≤ now) (ha : now ≤ a ∧ a < 1099511627776) {Q : V → H → Prop} (q : ∀ h', On h' wr now a (cx a now) → Kw h wr h' → Q (.b true) h') :
    @wF IP 40 [.p (some (wr, 0)), .agg (alm a 0)] h ⟨Q⟩ := by
  unfold alm
  simp (maxSteps := 2000000) (disch := omega) only [stp, ← decide_not, vEqz, eqz, vEqa, eqList, eqAtom, H.at, H.load, vBox, vNewSl, vBld, fill, Mx.part, vClear, vCopy, vBtos, source, lenV, V.isSl, Mx.room, slcut, cutOp, mkOp, bounds, natIn, H.kill, beq_self_eq_true, if_pos, if_neg, List.cons_append, List.nil_append, List.append_nil, List.length_cons, List.length_nil, List.length_set, List.take_succ_cons, List.take_zero, List.drop_succ_cons, List.drop_zero, List.take_nil, List.drop_nil, List.all_cons, List.all_nil, ite_self, if_true, if_false, ite_true, ite_false, reduceIte, reduceDIte, eq_self, ne_eq, gt_iff_lt, ge_iff_le, Option.map_some, Option.map_none, Nat.reduceAdd, Nat.reduceMul, Nat.reduceSub, Nat.reduceLT, Nat.reduceLeDiff, Nat.reduceEqDiff, Nat.reduceSucc, Int.reduceAdd, Int.reduceSub, Int.reduceMul, Int.reduceNeg, Int.reduceLT, Int.reduceLE, Int.reduceEq, Int.reduceNe, Int.reduceToNat, Int.reduceTMod, Int.reduceTDiv, Int.reduceFDiv, Int.reducePow, Nat.reduceMod, Nat.reduceAnd, Nat.reduceDiv, Nat.reducePow, f40, K40_1, K40_2, K40_6, K40, f86, K86]
  have e0 : Ext h ((h.new ⟨false, alm a 0⟩).put h.nx (some ⟨false, alm a 0⟩)) := (ext_new _ _).trans (put_same (by simp))
  have hne : wr ≠ h.nx := by omega
  have w : Wh h.nx ⟨false, alm a 0⟩ ((h.new ⟨false, alm a 0⟩).put h.nx (some ⟨false, alm a 0⟩)) wr nil_ (fun _ => []) now 0 0 := by
    refine ⟨⟨row, (e0.2 wr hwl).trans g0, wk⟩, Nat.lt_of_lt_of_le hwl e0.1, fun c _ _ => .inl ⟨rfl, rfl⟩, fun c _ _ => by simp, fun c _ _ e he => (by cases he), ⟨by simp, by simp, Ne.symm hne, fun c m k _ _ e => (by cases e)⟩, fun c id m k _ _ e => (by cases e), fun c c' id m k m' k' _ _ _ _ e _ => (by cases e)⟩
  refine drop_none w (by omega) (fun c _ _ e he => (by cases he)) (fun h1 e1 => ?_)
  have E1 := e0.trans e1
  have g1 := (E1.2 wr hwl).trans g0
  have hwl1 := Nat.lt_of_lt_of_le hwl E1.1
  have ga : h1.get h.nx = some ⟨false, alm a 0⟩ := (e1.2 h.nx (by simp)).trans (by simp)
  have hrl := wk.len
  have wn := wk.wn
  have wk2 := wk.setn 1
  have wk3 := wk2.setl 1
  have r2 := wk2.wl
  have r3 := wk3.wl
  have ly1 : lay row 51 [.i .i64 1] = row.set 51 (.i .i64 1) := lay1 _ (by omega)
  have ly2 : lay (row.set 51 (.i .i64 1)) 52 [.i .i64 1] = (row.set 51 (.i .i64 1)).set 52 (.i .i64 1) := lay1 _ (by rw [List.length_set]; omega)
  unfold alm at ga
  simp (maxSteps := 2000000) (disch := omega) only [stp, ← decide_not, vEqz, eqz, vEqa, eqList, eqAtom, H.at, H.load, vBox, vNewSl, vBld, fill, Mx.part, vClear, vCopy, vBtos, source, lenV, V.isSl, Mx.room, slcut, cutOp, mkOp, bounds, natIn, H.kill, beq_self_eq_true, if_pos, if_neg, List.cons_append, List.nil_append, List.append_nil, List.length_cons, List.length_nil, List.length_set, List.take_succ_cons, List.take_zero, List.drop_succ_cons, List.drop_zero, List.take_nil, List.drop_nil, List.all_cons, List.all_nil, ite_self, if_true, if_false, ite_true, ite_false, reduceIte, reduceDIte, eq_self, ne_eq, gt_iff_lt, ge_iff_le, Option.map_some, Option.map_none, Nat.reduceAdd, Nat.reduceMul, Nat.reduceSub, Nat.reduceLT, Nat.reduceLeDiff, Nat.reduceEqDiff, Nat.reduceSucc, Int.reduceAdd, Int.reduceSub, Int.reduceMul, Int.reduceNeg, Int.reduceLT, Int.reduceLE, Int.reduceEq, Int.reduceNe, Int.reduceToNat, Int.reduceTMod, Int.reduceTDiv, Int.reduceFDiv, Int.reducePow, Nat.reduceMod, Nat.reduceAnd, Nat.reduceDiv, Nat.reducePow, K40_1, K40_2, K40_6, K40, g1, wn, ga, hrl, ly1, ly2, r2, r3, hne]
  refine lay_em (a := a) (now := now) ⟨_, by rw [H.get_put, if_pos rfl], wk3, by simp only [H.nx_put]; exact hwl1⟩ hnow (by omega) (fun h' o' k' => ?_)
  simp (maxSteps := 2000000) (disch := omega) only [stp, ← decide_not, vEqz, eqz, vEqa, eqList, eqAtom, H.at, H.load, vBox, vNewSl, vBld, fill, Mx.part, vClear, vCopy, vBtos, source, lenV, V.isSl, Mx.room, slcut, cutOp, mkOp, bounds, natIn, H.kill, beq_self_eq_true, if_pos, if_neg, List.cons_append, List.nil_append, List.append_nil, List.length_cons, List.length_nil, List.length_set, List.take_succ_cons, List.take_zero, List.drop_succ_cons, List.drop_zero, List.take_nil, List.drop_nil, List.all_cons, List.all_nil, ite_self, if_true, if_false, ite_true, ite_false, reduceIte, reduceDIte, eq_self, ne_eq, gt_iff_lt, ge_iff_le, Option.map_some, Option.map_none, Nat.reduceAdd, Nat.reduceMul, Nat.reduceSub, Nat.reduceLT, Nat.reduceLeDiff, Nat.reduceEqDiff, Nat.reduceSucc, Int.reduceAdd, Int.reduceSub, Int.reduceMul, Int.reduceNeg, Int.reduceLT, Int.reduceLE, Int.reduceEq, Int.reduceNe, Int.reduceToNat, Int.reduceTMod, Int.reduceTDiv, Int.reduceFDiv, Int.reducePow, Nat.reduceMod, Nat.reduceAnd, Nat.reduceDiv, Nat.reducePow, ]
  exact q h' o' (Kw.trans ((E1.kw wr).put _) (Kw.trans (((Ext.refl _).kw wr).put _) k'))
theorem shr_ex (x b : Int) (hb : 0 ≤ b) : ∃ y, bin .shr (.i .i64 x) (.i .u64 b) = some (.i .i64 y) ∧ (0 ≤ x → 0 ≤ y ∧ y ≤ x) := by
  refine ⟨x.fdiv (2 ^ (min b.toNat IntKind.i64.bits)), ?_, fun hx => ?_⟩
  · have : ¬ b < 0 := by omega
    simp [bin, isSh, shI, this]
  · have hp : (0 : Int) ≤ 2 ^ (min b.toNat IntKind.i64.bits) := Int.le_of_lt (Int.pow_pos (by omega))
    rw [Int.fdiv_eq_ediv_of_nonneg _ hp]
    exact ⟨Int.ediv_nonneg hx hp, Int.ediv_le_self _ hx⟩
theorem awake (h : H) (Q : V → H → Prop) (q : ∀ h', (∀ id, id < h.nx → h'.get id = h.get id) → h.nx ≤ h'.nx → Q (.b true) h') : @wF IP 45 [] h ⟨Q⟩ :=
  Fnc_any bare 60 rfl rfl (by kernel_rfl) h q
theorem come0 {h : H} {wr c : Nat} {now a : Int} (o : On h wr now a c) (hc : c ≠ 50) {Q : V → H → Prop} (q : Q (.i .i64 0) h) : @wF IP 42 [.p (some (wr, 0))] h ⟨Q⟩ := by
  obtain ⟨row, g0, hl, w0, hn, _, hwl, _⟩ := o.now
  have c50 := hn 50 (by omega) (by omega) (Ne.symm hc)
  simp (maxSteps := 2000000) (disch := omega) only [stp, ← decide_not, vEqz, eqz, vEqa, eqList, eqAtom, H.at, H.load, vBox, vNewSl, vBld, fill, Mx.part, vClear, vCopy, vBtos, source, lenV, V.isSl, Mx.room, slcut, cutOp, mkOp, bounds, natIn, H.kill, beq_self_eq_true, if_pos, if_neg, List.cons_append, List.nil_append, List.append_nil, List.length_cons, List.length_nil, List.length_set, List.take_succ_cons, List.take_zero, List.drop_succ_cons, List.drop_zero, List.take_nil, List.drop_nil, List.all_cons, List.all_nil, ite_self, if_true, if_false, ite_true, ite_false, reduceIte, reduceDIte, eq_self, ne_eq, gt_iff_lt, ge_iff_le, Option.map_some, Option.map_none, Nat.reduceAdd, Nat.reduceMul, Nat.reduceSub, Nat.reduceLT, Nat.reduceLeDiff, Nat.reduceEqDiff, Nat.reduceSucc, Int.reduceAdd, Int.reduceSub, Int.reduceMul, Int.reduceNeg, Int.reduceLT, Int.reduceLE, Int.reduceEq, Int.reduceNe, Int.reduceToNat, Int.reduceTMod, Int.reduceTDiv, Int.reduceFDiv, Int.reducePow, Nat.reduceMod, Nat.reduceAnd, Nat.reduceDiv, Nat.reducePow, f42, K42, g0, c50]
  exact q
theorem gd50 {a now : Int} {c : Nat} (g : Gd a now c) : c ≠ 50 := by unfold Gd at g; omega
theorem k2 {h : H} {wr c : Nat} {now a : Int} (o : On h wr now a c) (h0 : 0 ≤ now) (g : now < a → Gd a now c) (e : now = a → c = 50) (hle : now ≤ a) (ha : a ≤ 1099511627776) :
    @K8_2 (.p (some (wr, 0))) (.i .i64 a) h ⟨fun v _ => v = .b true⟩ := by
  simp (maxSteps := 2000000) (disch := omega) only [stp, ← decide_not, vEqz, eqz, vEqa, eqList, eqAtom, H.at, H.load, vBox, vNewSl, vBld, fill, Mx.part, vClear, vCopy, vBtos, source, lenV, V.isSl, Mx.room, slcut, cutOp, mkOp, bounds, natIn, H.kill, beq_self_eq_true, if_pos, if_neg, List.cons_append, List.nil_append, List.append_nil, List.length_cons, List.length_nil, List.length_set, List.take_succ_cons, List.take_zero, List.drop_succ_cons, List.drop_zero, List.take_nil, List.drop_nil, List.all_cons, List.all_nil, ite_self, if_true, if_false, ite_true, ite_false, reduceIte, reduceDIte, eq_self, ne_eq, gt_iff_lt, ge_iff_le, Option.map_some, Option.map_none, Nat.reduceAdd, Nat.reduceMul, Nat.reduceSub, Nat.reduceLT, Nat.reduceLeDiff, Nat.reduceEqDiff, Nat.reduceSucc, Int.reduceAdd, Int.reduceSub, Int.reduceMul, Int.reduceNeg, Int.reduceLT, Int.reduceLE, Int.reduceEq, Int.reduceNe, Int.reduceToNat, Int.reduceTMod, Int.reduceTDiv, Int.reduceFDiv, Int.reducePow, Nat.reduceMod, Nat.reduceAnd, Nat.reduceDiv, Nat.reducePow, K8_2]
  refine advance o h0 g e ⟨hle, Int.le_refl _⟩ ha (fun h1 c1 o1 _ e1 _ => ?_)
  have := e1 rfl
  subst this
  try simp (maxSteps := 2000000) (disch := omega) only [stp, ← decide_not, vEqz, eqz, vEqa, eqList, eqAtom, H.at, H.load, vBox, vNewSl, vBld, fill, Mx.part, vClear, vCopy, vBtos, source, lenV, V.isSl, Mx.room, slcut, cutOp, mkOp, bounds, natIn, H.kill, beq_self_eq_true, if_pos, if_neg, List.cons_append, List.nil_append, List.append_nil, List.length_cons, List.length_nil, List.length_set, List.take_succ_cons, List.take_zero, List.drop_succ_cons, List.drop_zero, List.take_nil, List.drop_nil, List.all_cons, List.all_nil, ite_self, if_true, if_false, ite_true, ite_false, reduceIte, reduceDIte, eq_self, ne_eq, gt_iff_lt, ge_iff_le, Option.map_some, Option.map_none, Nat.reduceAdd, Nat.reduceMul, Nat.reduceSub, Nat.reduceLT, Nat.reduceLeDiff, Nat.reduceEqDiff, Nat.reduceSucc, Int.reduceAdd, Int.reduceSub, Int.reduceMul, Int.reduceNeg, Int.reduceLT, Int.reduceLE, Int.reduceEq, Int.reduceNe, Int.reduceToNat, Int.reduceTMod, Int.reduceTDiv, Int.reduceFDiv, Int.reducePow, Nat.reduceMod, Nat.reduceAnd, Nat.reduceDiv, Nat.reducePow, ]
  refine take o1 (fun h2 row g2 r2 hw2 => ?_)
  unfold alm
  simp (maxSteps := 2000000) (disch := omega) only [stp, ← decide_not, vEqz, eqz, vEqa, eqList, eqAtom, H.at, H.load, vBox, vNewSl, vBld, fill, Mx.part, vClear, vCopy, vBtos, source, lenV, V.isSl, Mx.room, slcut, cutOp, mkOp, bounds, natIn, H.kill, beq_self_eq_true, if_pos, if_neg, List.cons_append, List.nil_append, List.append_nil, List.length_cons, List.length_nil, List.length_set, List.take_succ_cons, List.take_zero, List.drop_succ_cons, List.drop_zero, List.take_nil, List.drop_nil, List.all_cons, List.all_nil, ite_self, if_true, if_false, ite_true, ite_false, reduceIte, reduceDIte, eq_self, ne_eq, gt_iff_lt, ge_iff_le, Option.map_some, Option.map_none, Nat.reduceAdd, Nat.reduceMul, Nat.reduceSub, Nat.reduceLT, Nat.reduceLeDiff, Nat.reduceEqDiff, Nat.reduceSucc, Int.reduceAdd, Int.reduceSub, Int.reduceMul, Int.reduceNeg, Int.reduceLT, Int.reduceLE, Int.reduceEq, Int.reduceNe, Int.reduceToNat, Int.reduceTMod, Int.reduceTDiv, Int.reduceFDiv, Int.reducePow, Nat.reduceMod, Nat.reduceAnd, Nat.reduceDiv, Nat.reducePow, ]
  refine awake _ _ (fun h3 k3 n3 => ?_)
  simp (maxSteps := 2000000) (disch := omega) only [stp, ← decide_not, vEqz, eqz, vEqa, eqList, eqAtom, H.at, H.load, vBox, vNewSl, vBld, fill, Mx.part, vClear, vCopy, vBtos, source, lenV, V.isSl, Mx.room, slcut, cutOp, mkOp, bounds, natIn, H.kill, beq_self_eq_true, if_pos, if_neg, List.cons_append, List.nil_append, List.append_nil, List.length_cons, List.length_nil, List.length_set, List.take_succ_cons, List.take_zero, List.drop_succ_cons, List.drop_zero, List.take_nil, List.drop_nil, List.all_cons, List.all_nil, ite_self, if_true, if_false, ite_true, ite_false, reduceIte, reduceDIte, eq_self, ne_eq, gt_iff_lt, ge_iff_le, Option.map_some, Option.map_none, Nat.reduceAdd, Nat.reduceMul, Nat.reduceSub, Nat.reduceLT, Nat.reduceLeDiff, Nat.reduceEqDiff, Nat.reduceSucc, Int.reduceAdd, Int.reduceSub, Int.reduceMul, Int.reduceNeg, Int.reduceLT, Int.reduceLE, Int.reduceEq, Int.reduceNe, Int.reduceToNat, Int.reduceTMod, Int.reduceTDiv, Int.reduceFDiv, Int.reducePow, Nat.reduceMod, Nat.reduceAnd, Nat.reduceDiv, Nat.reducePow, ] at n3
  have g3 : h3.get wr = some ⟨false, row⟩ := (k3 wr (by simp (maxSteps := 2000000) (disch := omega) only [stp, ← decide_not, vEqz, eqz, vEqa, eqList, eqAtom, H.at, H.load, vBox, vNewSl, vBld, fill, Mx.part, vClear, vCopy, vBtos, source, lenV, V.isSl, Mx.room, slcut, cutOp, mkOp, bounds, natIn, H.kill, beq_self_eq_true, if_pos, if_neg, List.cons_append, List.nil_append, List.append_nil, List.length_cons, List.length_nil, List.length_set, List.take_succ_cons, List.take_zero, List.drop_succ_cons, List.drop_zero, List.take_nil, List.drop_nil, List.all_cons, List.all_nil, ite_self, if_true, if_false, ite_true, ite_false, reduceIte, reduceDIte, eq_self, ne_eq, gt_iff_lt, ge_iff_le, Option.map_some, Option.map_none, Nat.reduceAdd, Nat.reduceMul, Nat.reduceSub, Nat.reduceLT, Nat.reduceLeDiff, Nat.reduceEqDiff, Nat.reduceSucc, Int.reduceAdd, Int.reduceSub, Int.reduceMul, Int.reduceNeg, Int.reduceLT, Int.reduceLE, Int.reduceEq, Int.reduceNe, Int.reduceToNat, Int.reduceTMod, Int.reduceTDiv, Int.reduceFDiv, Int.reducePow, Nat.reduceMod, Nat.reduceAnd, Nat.reduceDiv, Nat.reducePow, ]; omega)).trans (by simp (maxSteps := 2000000) (disch := omega) only [stp, ← decide_not, vEqz, eqz, vEqa, eqList, eqAtom, H.at, H.load, vBox, vNewSl, vBld, fill, Mx.part, vClear, vCopy, vBtos, source, lenV, V.isSl, Mx.room, slcut, cutOp, mkOp, bounds, natIn, H.kill, beq_self_eq_true, if_pos, if_neg, List.cons_append, List.nil_append, List.append_nil, List.length_cons, List.length_nil, List.length_set, List.take_succ_cons, List.take_zero, List.drop_succ_cons, List.drop_zero, List.take_nil, List.drop_nil, List.all_cons, List.all_nil, ite_self, if_true, if_false, ite_true, ite_false, reduceIte, reduceDIte, eq_self, ne_eq, gt_iff_lt, ge_iff_le, Option.map_some, Option.map_none, Nat.reduceAdd, Nat.reduceMul, Nat.reduceSub, Nat.reduceLT, Nat.reduceLeDiff, Nat.reduceEqDiff, Nat.reduceSucc, Int.reduceAdd, Int.reduceSub, Int.reduceMul, Int.reduceNeg, Int.reduceLT, Int.reduceLE, Int.reduceEq, Int.reduceNe, Int.reduceToNat, Int.reduceTMod, Int.reduceTDiv, Int.reduceFDiv, Int.reducePow, Nat.reduceMod, Nat.reduceAnd, Nat.reduceDiv, Nat.reducePow, ]; exact g2)
  have b3 := (k3 h2.nx (by simp (maxSteps := 2000000) (disch := omega) only [stp, ← decide_not, vEqz, eqz, vEqa, eqList, eqAtom, H.at, H.load, vBox, vNewSl, vBld, fill, Mx.part, vClear, vCopy, vBtos, source, lenV, V.isSl, Mx.room, slcut, cutOp, mkOp, bounds, natIn, H.kill, beq_self_eq_true, if_pos, if_neg, List.cons_append, List.nil_append, List.append_nil, List.length_cons, List.length_nil, List.length_set, List.take_succ_cons, List.take_zero, List.drop_succ_cons, List.drop_zero, List.take_nil, List.drop_nil, List.all_cons, List.all_nil, ite_self, if_true, if_false, ite_true, ite_false, reduceIte, reduceDIte, eq_self, ne_eq, gt_iff_lt, ge_iff_le, Option.map_some, Option.map_none, Nat.reduceAdd, Nat.reduceMul, Nat.reduceSub, Nat.reduceLT, Nat.reduceLeDiff, Nat.reduceEqDiff, Nat.reduceSucc, Int.reduceAdd, Int.reduceSub, Int.reduceMul, Int.reduceNeg, Int.reduceLT, Int.reduceLE, Int.reduceEq, Int.reduceNe, Int.reduceToNat, Int.reduceTMod, Int.reduceTDiv, Int.reduceFDiv, Int.reducePow, Nat.reduceMod, Nat.reduceAnd, Nat.reduceDiv, Nat.reducePow, ]; omega)).trans (show _ = some ⟨false, [.i .i64 a, .i .i64 0, .i .i64 0, .i .i64 3, .i .i64 0]⟩ by simp (maxSteps := 2000000) (disch := omega) only [stp, ← decide_not, vEqz, eqz, vEqa, eqList, eqAtom, H.at, H.load, vBox, vNewSl, vBld, fill, Mx.part, vClear, vCopy, vBtos, source, lenV, V.isSl, Mx.room, slcut, cutOp, mkOp, bounds, natIn, H.kill, beq_self_eq_true, if_pos, if_neg, List.cons_append, List.nil_append, List.append_nil, List.length_cons, List.length_nil, List.length_set, List.take_succ_cons, List.take_zero, List.drop_succ_cons, List.drop_zero, List.take_nil, List.drop_nil, List.all_cons, List.all_nil, ite_self, if_true, if_false, ite_true, ite_false, reduceIte, reduceDIte, eq_self, ne_eq, gt_iff_lt, ge_iff_le, Option.map_some, Option.map_none, Nat.reduceAdd, Nat.reduceMul, Nat.reduceSub, Nat.reduceLT, Nat.reduceLeDiff, Nat.reduceEqDiff, Nat.reduceSucc, Int.reduceAdd, Int.reduceSub, Int.reduceMul, Int.reduceNeg, Int.reduceLT, Int.reduceLE, Int.reduceEq, Int.reduceNe, Int.reduceToNat, Int.reduceTMod, Int.reduceTDiv, Int.reduceFDiv, Int.reducePow, Nat.reduceMod, Nat.reduceAnd, Nat.reduceDiv, Nat.reducePow, ])
  simp (maxSteps := 2000000) (disch := omega) only [stp, ← decide_not, vEqz, eqz, vEqa, eqList, eqAtom, H.at, H.load, vBox, vNewSl, vBld, fill, Mx.part, vClear, vCopy, vBtos, source, lenV, V.isSl, Mx.room, slcut, cutOp, mkOp, bounds, natIn, H.kill, beq_self_eq_true, if_pos, if_neg, List.cons_append, List.nil_append, List.append_nil, List.length_cons, List.length_nil, List.length_set, List.take_succ_cons, List.take_zero, List.drop_succ_cons, List.drop_zero, List.take_nil, List.drop_nil, List.all_cons, List.all_nil, ite_self, if_true, if_false, ite_true, ite_false, reduceIte, reduceDIte, eq_self, ne_eq, gt_iff_lt, ge_iff_le, Option.map_some, Option.map_none, Nat.reduceAdd, Nat.reduceMul, Nat.reduceSub, Nat.reduceLT, Nat.reduceLeDiff, Nat.reduceEqDiff, Nat.reduceSucc, Int.reduceAdd, Int.reduceSub, Int.reduceMul, Int.reduceNeg, Int.reduceLT, Int.reduceLE, Int.reduceEq, Int.reduceNe, Int.reduceToNat, Int.reduceTMod, Int.reduceTDiv, Int.reduceFDiv, Int.reducePow, Nat.reduceMod, Nat.reduceAnd, Nat.reduceDiv, Nat.reducePow, K8_12, K8_13, K8_14, K8_15, K8_2, K8_1, K8_18, K8_19, K8_23, K8_17, K8_24, K8_28, K8, b3, f41, K41, g3, r2]
theorem k1 {h : H} {wr c : Nat} {now a off : Int} (o : On h wr now a c) (h0 : 0 ≤ now) (g : now < a → Gd a now c) (e : now = a → c = 50) (hle : now ≤ a) (ha : a ≤ 1099511627776) (hoff : 0 < off → now < a) :
    @K8_1 (.i .i64 off) (.p (some (wr, 0))) (.i .i64 a) h ⟨fun v _ => v = .b true⟩ := by
  by_cases hz : 0 < off
  · have hlt := hoff hz
    simp (maxSteps := 2000000) (disch := omega) only [stp, ← decide_not, vEqz, eqz, vEqa, eqList, eqAtom, H.at, H.load, vBox, vNewSl, vBld, fill, Mx.part, vClear, vCopy, vBtos, source, lenV, V.isSl, Mx.room, slcut, cutOp, mkOp, bounds, natIn, H.kill, beq_self_eq_true, if_pos, if_neg, List.cons_append, List.nil_append, List.append_nil, List.length_cons, List.length_nil, List.length_set, List.take_succ_cons, List.take_zero, List.drop_succ_cons, List.drop_zero, List.take_nil, List.drop_nil, List.all_cons, List.all_nil, ite_self, if_true, if_false, ite_true, ite_false, reduceIte, reduceDIte, eq_self, ne_eq, gt_iff_lt, ge_iff_le, Option.map_some, Option.map_none, Nat.reduceAdd, Nat.reduceMul, Nat.reduceSub, Nat.reduceLT, Nat.reduceLeDiff, Nat.reduceEqDiff, Nat.reduceSucc, Int.reduceAdd, Int.reduceSub, Int.reduceMul, Int.reduceNeg, Int.reduceLT, Int.reduceLE, Int.reduceEq, Int.reduceNe, Int.reduceToNat, Int.reduceTMod, Int.reduceTDiv, Int.reduceFDiv, Int.reducePow, Nat.reduceMod, Nat.reduceAnd, Nat.reduceDiv, Nat.reducePow, K8_1]
    refine advance o h0 g e ⟨by omega, by omega⟩ ha (fun h1 c1 o1 g1 e1 _ => ?_)
    try simp (maxSteps := 2000000) (disch := omega) only [stp, ← decide_not, vEqz, eqz, vEqa, eqList, eqAtom, H.at, H.load, vBox, vNewSl, vBld, fill, Mx.part, vClear, vCopy, vBtos, source, lenV, V.isSl, Mx.room, slcut, cutOp, mkOp, bounds, natIn, H.kill, beq_self_eq_true, if_pos, if_neg, List.cons_append, List.nil_append, List.append_nil, List.length_cons, List.length_nil, List.length_set, List.take_succ_cons, List.take_zero, List.drop_succ_cons, List.drop_zero, List.take_nil, List.drop_nil, List.all_cons, List.all_nil, ite_self, if_true, if_false, ite_true, ite_false, reduceIte, reduceDIte, eq_self, ne_eq, gt_iff_lt, ge_iff_le, Option.map_some, Option.map_none, Nat.reduceAdd, Nat.reduceMul, Nat.reduceSub, Nat.reduceLT, Nat.reduceLeDiff, Nat.reduceEqDiff, Nat.reduceSucc, Int.reduceAdd, Int.reduceSub, Int.reduceMul, Int.reduceNeg, Int.reduceLT, Int.reduceLE, Int.reduceEq, Int.reduceNe, Int.reduceToNat, Int.reduceTMod, Int.reduceTDiv, Int.reduceFDiv, Int.reducePow, Nat.reduceMod, Nat.reduceAnd, Nat.reduceDiv, Nat.reducePow, ]
    refine come0 o1 (gd50 (g1 (by omega))) ?_
    simp (maxSteps := 2000000) (disch := omega) only [stp, ← decide_not, vEqz, eqz, vEqa, eqList, eqAtom, H.at, H.load, vBox, vNewSl, vBld, fill, Mx.part, vClear, vCopy, vBtos, source, lenV, V.isSl, Mx.room, slcut, cutOp, mkOp, bounds, natIn, H.kill, beq_self_eq_true, if_pos, if_neg, List.cons_append, List.nil_append, List.append_nil, List.length_cons, List.length_nil, List.length_set, List.take_succ_cons, List.take_zero, List.drop_succ_cons, List.drop_zero, List.take_nil, List.drop_nil, List.all_cons, List.all_nil, ite_self, if_true, if_false, ite_true, ite_false, reduceIte, reduceDIte, eq_self, ne_eq, gt_iff_lt, ge_iff_le, Option.map_some, Option.map_none, Nat.reduceAdd, Nat.reduceMul, Nat.reduceSub, Nat.reduceLT, Nat.reduceLeDiff, Nat.reduceEqDiff, Nat.reduceSucc, Int.reduceAdd, Int.reduceSub, Int.reduceMul, Int.reduceNeg, Int.reduceLT, Int.reduceLE, Int.reduceEq, Int.reduceNe, Int.reduceToNat, Int.reduceTMod, Int.reduceTDiv, Int.reduceFDiv, Int.reducePow, Nat.reduceMod, Nat.reduceAnd, Nat.reduceDiv, Nat.reducePow, ]
    exact k2 o1 (by omega) g1 e1 (by omega) ha
  · simp (maxSteps := 2000000) (disch := omega) only [stp, ← decide_not, vEqz, eqz, vEqa, eqList, eqAtom, H.at, H.load, vBox, vNewSl, vBld, fill, Mx.part, vClear, vCopy, vBtos, source, lenV, V.isSl, Mx.room, slcut, cutOp, mkOp, bounds, natIn, H.kill, beq_self_eq_true, if_pos, if_neg, List.cons_append, List.nil_append, List.append_nil, List.length_cons, List.length_nil, List.length_set, List.take_succ_cons, List.take_zero, List.drop_succ_cons, List.drop_zero, List.take_nil, List.drop_nil, List.all_cons, List.all_nil, ite_self, if_true, if_false, ite_true, ite_false, reduceIte, reduceDIte, eq_self, ne_eq, gt_iff_lt, ge_iff_le, Option.map_some, Option.map_none, Nat.reduceAdd, Nat.reduceMul, Nat.reduceSub, Nat.reduceLT, Nat.reduceLeDiff, Nat.reduceEqDiff, Nat.reduceSucc, Int.reduceAdd, Int.reduceSub, Int.reduceMul, Int.reduceNeg, Int.reduceLT, Int.reduceLE, Int.reduceEq, Int.reduceNe, Int.reduceToNat, Int.reduceTMod, Int.reduceTDiv, Int.reduceFDiv, Int.reducePow, Nat.reduceMod, Nat.reduceAnd, Nat.reduceDiv, Nat.reducePow, K8_1]
    exact k2 o h0 g e hle ha
def Lst (h : H) (wr : Nat) (l : V) (rows : List (List V)) : Prop := (rows = [] ∧ (l = .nsl ∨ l = .es false)) ∨ ∃ rl c, rl ≠ wr ∧ l = .sl rl 0 rows.length c ∧ h.get rl = some ⟨true, rows.flatten⟩ ∧ rl < h.nx
theorem Lst.kw {h h' : H} {wr : Nat} {l : V} {rows : List (List V)} (k : Lst h wr l rows) (w : Kw h wr h') : Lst h' wr l rows := by
  rcases k with k | ⟨rl, c, h1, h2, h3, h4⟩
  · exact .inl k
  · exact .inr ⟨rl, c, h1, h2, (w.2 rl h4 h1).trans h3, Nat.lt_of_lt_of_le h4 w.1⟩
theorem Lst.len {h : H} {wr : Nat} {l : V} {rows : List (List V)} (k : Lst h wr l rows) : vLens l = some (.i .i64 rows.length) := by
  rcases k with ⟨rfl, rfl | rfl⟩ | ⟨rl, c, _, rfl, _⟩ <;> rfl
def LoopF (wr : Nat) (a off : Int) (l : V) (rows : List (List V)) (m : Nat) (x2 x7 x8 x9 x10 x11 : V) (h : H) : Prop :=
  ∃ (i c : Nat) (now : Int), x2 = l ∧ x7 = .i .i64 now ∧ x8 = .i .i64 off ∧ x9 = .p (some (wr, 0)) ∧ x10 = .i .i64 a ∧ x11 = .i .i64 i ∧ i ≤ 30 ∧ m = 30 - i ∧ On h wr now a c ∧ 0 ≤ now ∧ now ≤ a ∧ (now < a → Gd a now c) ∧ (now = a → c = 50) ∧ (0 < off → now < a) ∧ Lst h wr l rows
theorem floop {h : H} {wr c : Nat} {now a off : Int} {l : V} {rows : List (List V)} (hr : ∀ r ∈ rows, ∃ n : Int, r = [.i .i64 n]) (o : On h wr now a c) (h0 : 0 ≤ now) (g : now < a → Gd a now c) (e : now = a → c = 50) (hle : now ≤ a) (ha : a ≤ 1099511627776) (hoff : 0 < off → now < a) (hl : Lst h wr l rows) :
    @W8_16 l (.i .i64 now) (.i .i64 off) (.p (some (wr, 0))) (.i .i64 a) (.i .i64 0) h ⟨fun v _ => v = .b true⟩ := by
  refine W8_16_inv (LoopF wr a off l rows) ?_ 30 _ _ _ _ _ _ _ ⟨0, c, now, rfl, rfl, rfl, rfl, rfl, rfl, by omega, by omega, o, h0, hle, g, e, hoff, hl⟩
  rintro m _ _ _ _ _ _ h1 ⟨i, c1, n1, rfl, rfl, rfl, rfl, rfl, rfl, hi, rfl, o1, hn0, hna, g1, e1, ho1, l1⟩
  have hlen := l1.len
  by_cases hlt : i < rows.length ∧ i < 30
  · obtain ⟨hlt1, hlt2⟩ := hlt
    have l1' := l1
    rcases l1' with ⟨rfl, _⟩ | ⟨rl, cp, hrw, rfl, kl0, rll⟩
    · simp at hlt1
    obtain ⟨n, hn⟩ := hr _ (List.getElem_mem hlt1)
    have hw1 : ∀ r ∈ rows, r.length = 1 := by
      intro r hm
      obtain ⟨_, rfl⟩ := hr r hm
      rfl
    have hget := flat_get hw1 i 0 [] hlt1 (by omega)
    rw [List.append_nil, hn] at hget
    simp only [Nat.mul_one, Nat.add_zero, List.getElem?_cons_zero] at hget
    obtain ⟨z, hze⟩ : ∃ z, z = land .i64 n 4095 := ⟨_, rfl⟩
    have hz := land_in n 4095 (by omega) (by omega)
    rw [← hze] at hz
    by_cases hb : a ≤ n1 + z
    · simp (maxSteps := 2000000) (disch := omega) only [stp, ← decide_not, vEqz, eqz, vEqa, eqList, eqAtom, H.at, H.load, vBox, vNewSl, vBld, fill, Mx.part, vClear, vCopy, vBtos, source, lenV, V.isSl, Mx.room, slcut, cutOp, mkOp, bounds, natIn, H.kill, beq_self_eq_true, if_pos, if_neg, List.cons_append, List.nil_append, List.append_nil, List.length_cons, List.length_nil, List.length_set, List.take_succ_cons, List.take_zero, List.drop_succ_cons, List.drop_zero, List.take_nil, List.drop_nil, List.all_cons, List.all_nil, ite_self, if_true, if_false, ite_true, ite_false, reduceIte, reduceDIte, eq_self, ne_eq, gt_iff_lt, ge_iff_le, Option.map_some, Option.map_none, Nat.reduceAdd, Nat.reduceMul, Nat.reduceSub, Nat.reduceLT, Nat.reduceLeDiff, Nat.reduceEqDiff, Nat.reduceSucc, Int.reduceAdd, Int.reduceSub, Int.reduceMul, Int.reduceNeg, Int.reduceLT, Int.reduceLE, Int.reduceEq, Int.reduceNe, Int.reduceToNat, Int.reduceTMod, Int.reduceTDiv, Int.reduceFDiv, Int.reducePow, Nat.reduceMod, Nat.reduceAnd, Nat.reduceDiv, Nat.reducePow, L8_16, K8_28, K8_24, K8_17, hlen, kl0, hget, ← hze]
      exact k1 o1 hn0 g1 e1 hna ha ho1
    · simp (maxSteps := 2000000) (disch := omega) only [stp, ← decide_not, vEqz, eqz, vEqa, eqList, eqAtom, H.at, H.load, vBox, vNewSl, vBld, fill, Mx.part, vClear, vCopy, vBtos, source, lenV, V.isSl, Mx.room, slcut, cutOp, mkOp, bounds, natIn, H.kill, beq_self_eq_true, if_pos, if_neg, List.cons_append, List.nil_append, List.append_nil, List.length_cons, List.length_nil, List.length_set, List.take_succ_cons, List.take_zero, List.drop_succ_cons, List.drop_zero, List.take_nil, List.drop_nil, List.all_cons, List.all_nil, ite_self, if_true, if_false, ite_true, ite_false, reduceIte, reduceDIte, eq_self, ne_eq, gt_iff_lt, ge_iff_le, Option.map_some, Option.map_none, Nat.reduceAdd, Nat.reduceMul, Nat.reduceSub, Nat.reduceLT, Nat.reduceLeDiff, Nat.reduceEqDiff, Nat.reduceSucc, Int.reduceAdd, Int.reduceSub, Int.reduceMul, Int.reduceNeg, Int.reduceLT, Int.reduceLE, Int.reduceEq, Int.reduceNe, Int.reduceToNat, Int.reduceTMod, Int.reduceTDiv, Int.reduceFDiv, Int.reducePow, Nat.reduceMod, Nat.reduceAnd, Nat.reduceDiv, Nat.reducePow, L8_16, K8_28, K8_24, K8_17, hlen, kl0, hget, ← hze]
      refine advance o1 hn0 g1 e1 ⟨by omega, by omega⟩ ha (fun h2 c2 o2 g2 e2 w2 => ?_)
      try simp (maxSteps := 2000000) (disch := omega) only [stp, ← decide_not, vEqz, eqz, vEqa, eqList, eqAtom, H.at, H.load, vBox, vNewSl, vBld, fill, Mx.part, vClear, vCopy, vBtos, source, lenV, V.isSl, Mx.room, slcut, cutOp, mkOp, bounds, natIn, H.kill, beq_self_eq_true, if_pos, if_neg, List.cons_append, List.nil_append, List.append_nil, List.length_cons, List.length_nil, List.length_set, List.take_succ_cons, List.take_zero, List.drop_succ_cons, List.drop_zero, List.take_nil, List.drop_nil, List.all_cons, List.all_nil, ite_self, if_true, if_false, ite_true, ite_false, reduceIte, reduceDIte, eq_self, ne_eq, gt_iff_lt, ge_iff_le, Option.map_some, Option.map_none, Nat.reduceAdd, Nat.reduceMul, Nat.reduceSub, Nat.reduceLT, Nat.reduceLeDiff, Nat.reduceEqDiff, Nat.reduceSucc, Int.reduceAdd, Int.reduceSub, Int.reduceMul, Int.reduceNeg, Int.reduceLT, Int.reduceLE, Int.reduceEq, Int.reduceNe, Int.reduceToNat, Int.reduceTMod, Int.reduceTDiv, Int.reduceFDiv, Int.reducePow, Nat.reduceMod, Nat.reduceAnd, Nat.reduceDiv, Nat.reducePow, ]
      refine come0 o2 (gd50 (g2 (by omega))) ?_
      simp (maxSteps := 2000000) (disch := omega) only [stp, ← decide_not, vEqz, eqz, vEqa, eqList, eqAtom, H.at, H.load, vBox, vNewSl, vBld, fill, Mx.part, vClear, vCopy, vBtos, source, lenV, V.isSl, Mx.room, slcut, cutOp, mkOp, bounds, natIn, H.kill, beq_self_eq_true, if_pos, if_neg, List.cons_append, List.nil_append, List.append_nil, List.length_cons, List.length_nil, List.length_set, List.take_succ_cons, List.take_zero, List.drop_succ_cons, List.drop_zero, List.take_nil, List.drop_nil, List.all_cons, List.all_nil, ite_self, if_true, if_false, ite_true, ite_false, reduceIte, reduceDIte, eq_self, ne_eq, gt_iff_lt, ge_iff_le, Option.map_some, Option.map_none, Nat.reduceAdd, Nat.reduceMul, Nat.reduceSub, Nat.reduceLT, Nat.reduceLeDiff, Nat.reduceEqDiff, Nat.reduceSucc, Int.reduceAdd, Int.reduceSub, Int.reduceMul, Int.reduceNeg, Int.reduceLT, Int.reduceLE, Int.reduceEq, Int.reduceNe, Int.reduceToNat, Int.reduceTMod, Int.reduceTDiv, Int.reduceFDiv, Int.reducePow, Nat.reduceMod, Nat.reduceAnd, Nat.reduceDiv, Nat.reducePow, K8_23, K8_19, K8_18]
      exact ⟨30 - (i + 1), by omega, i + 1, c2, n1 + z, rfl, rfl, rfl, rfl, rfl, rfl, by omega, rfl, o2, by omega, by omega, g2, e2, fun _ => by omega, l1.kw w2⟩
  · by_cases hc : i < rows.length
    · have h30 : i = 30 := by omega
      subst h30
      simp (maxSteps := 2000000) (disch := omega) only [stp, ← decide_not, vEqz, eqz, vEqa, eqList, eqAtom, H.at, H.load, vBox, vNewSl, vBld, fill, Mx.part, vClear, vCopy, vBtos, source, lenV, V.isSl, Mx.room, slcut, cutOp, mkOp, bounds, natIn, H.kill, beq_self_eq_true, if_pos, if_neg, List.cons_append, List.nil_append, List.append_nil, List.length_cons, List.length_nil, List.length_set, List.take_succ_cons, List.take_zero, List.drop_succ_cons, List.drop_zero, List.take_nil, List.drop_nil, List.all_cons, List.all_nil, ite_self, if_true, if_false, ite_true, ite_false, reduceIte, reduceDIte, eq_self, ne_eq, gt_iff_lt, ge_iff_le, Option.map_some, Option.map_none, Nat.reduceAdd, Nat.reduceMul, Nat.reduceSub, Nat.reduceLT, Nat.reduceLeDiff, Nat.reduceEqDiff, Nat.reduceSucc, Int.reduceAdd, Int.reduceSub, Int.reduceMul, Int.reduceNeg, Int.reduceLT, Int.reduceLE, Int.reduceEq, Int.reduceNe, Int.reduceToNat, Int.reduceTMod, Int.reduceTDiv, Int.reduceFDiv, Int.reducePow, Nat.reduceMod, Nat.reduceAnd, Nat.reduceDiv, Nat.reducePow, L8_16, K8_28, K8_24, hlen]
      exact k1 o1 hn0 g1 e1 hna ha ho1
    · simp (maxSteps := 2000000) (disch := omega) only [stp, ← decide_not, vEqz, eqz, vEqa, eqList, eqAtom, H.at, H.load, vBox, vNewSl, vBld, fill, Mx.part, vClear, vCopy, vBtos, source, lenV, V.isSl, Mx.room, slcut, cutOp, mkOp, bounds, natIn, H.kill, beq_self_eq_true, if_pos, if_neg, List.cons_append, List.nil_append, List.append_nil, List.length_cons, List.length_nil, List.length_set, List.take_succ_cons, List.take_zero, List.drop_succ_cons, List.drop_zero, List.take_nil, List.drop_nil, List.all_cons, List.all_nil, ite_self, if_true, if_false, ite_true, ite_false, reduceIte, reduceDIte, eq_self, ne_eq, gt_iff_lt, ge_iff_le, Option.map_some, Option.map_none, Nat.reduceAdd, Nat.reduceMul, Nat.reduceSub, Nat.reduceLT, Nat.reduceLeDiff, Nat.reduceEqDiff, Nat.reduceSucc, Int.reduceAdd, Int.reduceSub, Int.reduceMul, Int.reduceNeg, Int.reduceLT, Int.reduceLE, Int.reduceEq, Int.reduceNe, Int.reduceToNat, Int.reduceTMod, Int.reduceTDiv, Int.reduceFDiv, Int.reducePow, Nat.reduceMod, Nat.reduceAnd, Nat.reduceDiv, Nat.reducePow, L8_16, K8_28, K8_24, hlen]
      exact k1 o1 hn0 g1 e1 hna ha ho1
def W0 (now : Int) : List V := .i .i64 now :: (List.replicate 50 V.nsl ++ [.i .i64 0, .i .i64 0])
theorem wr0 (now : Int) : Wr (W0 now) nil_ now 0 0 := by
  refine ⟨rfl, rfl, fun c h1 h2 => ?_, rfl, rfl⟩
  obtain ⟨c, rfl⟩ : ∃ c', c = c' + 1 := ⟨c - 1, by omega⟩
  unfold W0
  rw [List.getElem?_cons_succ, List.getElem?_append_left (by simp; omega), List.getElem?_replicate, if_pos (by omega)]
  rfl
theorem ofSl {ks : List KK} {h h' : H} {v : V} (s : SlOK ks h v h') {p : List V → Prop} (hp : ∀ r, OkL ks r → p r) : ∃ rows, (∀ r ∈ rows, p r) ∧ ∀ h2 wr, Ext h' h2 → h'.nx ≤ wr → Lst h2 wr v rows := by
  rcases s with ⟨rfl, rfl⟩ | ⟨rfl, rfl⟩ | ⟨len, cap, rows, h0, hc, hm, rfl, hk, rfl, rfl⟩
  · exact ⟨[], fun r hr => (by cases hr), fun _ _ _ _ => .inl ⟨rfl, .inl rfl⟩⟩
  · exact ⟨[], fun r hr => (by cases hr), fun _ _ _ _ => .inl ⟨rfl, .inr rfl⟩⟩
  · refine ⟨rows, fun r hr => hp r (hk r hr), fun h2 wr e hw => .inr ⟨h.nx, _, ?_, rfl, (e.2 h.nx (by simp)).trans (by simp), ?_⟩⟩
    · simp only [H.nx_new] at hw; omega
    · have := e.1; simp only [H.nx_new] at this; omega
theorem num_of {r : List V} (h : OkL [.i .i64] r) : ∃ n : Int, r = [.i .i64 n] := by
  obtain ⟨x, r1, rfl, hx, rfl⟩ := h
  obtain ⟨a, rfl, _⟩ := hx
  exact ⟨a, rfl⟩
theorem core {from_ off : Int} {steps : V} {h : H} {rows : List (List V)} (hr : ∀ r ∈ rows, ∃ n : Int, r = [.i .i64 n]) (L : ∀ h2 wr, Ext h h2 → h.nx ≤ wr → Lst h2 wr steps rows) : Fnc IP 8 [.i .i64 from_, .i .i64 off, steps] h (fun v _ => v = .b true) := by
  obtain ⟨x, hx⟩ : ∃ x, x = land .i64 from_ 68719476735 := ⟨_, rfl⟩
  have hxr := land_in from_ 68719476735 (by omega) (by omega)
  rw [← hx] at hxr
  obtain ⟨y, hy⟩ : ∃ y, y = land .i64 off 4294967295 := ⟨_, rfl⟩
  have hyr := land_in off 4294967295 (by omega) (by omega)
  rw [← hy] at hyr
  obtain ⟨y3, hs1, _⟩ := shr_ex off 40 (by omega)
  obtain ⟨z, hz⟩ : ∃ z, z = land .i64 y3 31 := ⟨_, rfl⟩
  have hzr := land_in y3 31 (by omega) (by omega)
  rw [← hz] at hzr
  obtain ⟨o, hs2, ho⟩ := shr_ex y z hzr.1
  have hor := ho hyr.1
  rw [wF_in, f8]
  simp (maxSteps := 2000000) (disch := omega) only [stp, ← decide_not, vEqz, eqz, vEqa, eqList, eqAtom, H.at, H.load, vBox, vNewSl, vBld, fill, Mx.part, vClear, vCopy, vBtos, source, lenV, V.isSl, Mx.room, slcut, cutOp, mkOp, bounds, natIn, H.kill, beq_self_eq_true, if_pos, if_neg, List.cons_append, List.nil_append, List.append_nil, List.length_cons, List.length_nil, List.length_set, List.take_succ_cons, List.take_zero, List.drop_succ_cons, List.drop_zero, List.take_nil, List.drop_nil, List.all_cons, List.all_nil, ite_self, if_true, if_false, ite_true, ite_false, reduceIte, reduceDIte, eq_self, ne_eq, gt_iff_lt, ge_iff_le, Option.map_some, Option.map_none, Nat.reduceAdd, Nat.reduceMul, Nat.reduceSub, Nat.reduceLT, Nat.reduceLeDiff, Nat.reduceEqDiff, Nat.reduceSucc, Int.reduceAdd, Int.reduceSub, Int.reduceMul, Int.reduceNeg, Int.reduceLT, Int.reduceLE, Int.reduceEq, Int.reduceNe, Int.reduceToNat, Int.reduceTMod, Int.reduceTDiv, Int.reduceFDiv, Int.reducePow, Nat.reduceMod, Nat.reduceAnd, Nat.reduceDiv, Nat.reducePow, K8_12, K8_13, K8_14, K8_15, K8_2, K8_1, K8_18, K8_19, K8_23, K8_17, K8_24, K8_28, K8, ← hx, ← hy, hs1, ← hz, hs2, f34, K34, f86, K86]
  refine put_first (row := W0 x) (now := x) (a := x + o) ?_ ?_ (wr0 x) (by omega) (by omega) (fun h1 o1 k1 => ?_)
  · simp (maxSteps := 2000000) (disch := omega) only [stp, ← decide_not, vEqz, eqz, vEqa, eqList, eqAtom, H.at, H.load, vBox, vNewSl, vBld, fill, Mx.part, vClear, vCopy, vBtos, source, lenV, V.isSl, Mx.room, slcut, cutOp, mkOp, bounds, natIn, H.kill, beq_self_eq_true, if_pos, if_neg, List.cons_append, List.nil_append, List.append_nil, List.length_cons, List.length_nil, List.length_set, List.take_succ_cons, List.take_zero, List.drop_succ_cons, List.drop_zero, List.take_nil, List.drop_nil, List.all_cons, List.all_nil, ite_self, if_true, if_false, ite_true, ite_false, reduceIte, reduceDIte, eq_self, ne_eq, gt_iff_lt, ge_iff_le, Option.map_some, Option.map_none, Nat.reduceAdd, Nat.reduceMul, Nat.reduceSub, Nat.reduceLT, Nat.reduceLeDiff, Nat.reduceEqDiff, Nat.reduceSucc, Int.reduceAdd, Int.reduceSub, Int.reduceMul, Int.reduceNeg, Int.reduceLT, Int.reduceLE, Int.reduceEq, Int.reduceNe, Int.reduceToNat, Int.reduceTMod, Int.reduceTDiv, Int.reduceFDiv, Int.reducePow, Nat.reduceMod, Nat.reduceAnd, Nat.reduceDiv, Nat.reducePow, ]
    rfl
  · simp (maxSteps := 2000000) (disch := omega) only [stp, ← decide_not, vEqz, eqz, vEqa, eqList, eqAtom, H.at, H.load, vBox, vNewSl, vBld, fill, Mx.part, vClear, vCopy, vBtos, source, lenV, V.isSl, Mx.room, slcut, cutOp, mkOp, bounds, natIn, H.kill, beq_self_eq_true, if_pos, if_neg, List.cons_append, List.nil_append, List.append_nil, List.length_cons, List.length_nil, List.length_set, List.take_succ_cons, List.take_zero, List.drop_succ_cons, List.drop_zero, List.take_nil, List.drop_nil, List.all_cons, List.all_nil, ite_self, if_true, if_false, ite_true, ite_false, reduceIte, reduceDIte, eq_self, ne_eq, gt_iff_lt, ge_iff_le, Option.map_some, Option.map_none, Nat.reduceAdd, Nat.reduceMul, Nat.reduceSub, Nat.reduceLT, Nat.reduceLeDiff, Nat.reduceEqDiff, Nat.reduceSucc, Int.reduceAdd, Int.reduceSub, Int.reduceMul, Int.reduceNeg, Int.reduceLT, Int.reduceLE, Int.reduceEq, Int.reduceNe, Int.reduceToNat, Int.reduceTMod, Int.reduceTDiv, Int.reduceFDiv, Int.reducePow, Nat.reduceMod, Nat.reduceAnd, Nat.reduceDiv, Nat.reducePow, ]
    omega
  · simp (maxSteps := 2000000) (disch := omega) only [stp, ← decide_not, vEqz, eqz, vEqa, eqList, eqAtom, H.at, H.load, vBox, vNewSl, vBld, fill, Mx.part, vClear, vCopy, vBtos, source, lenV, V.isSl, Mx.room, slcut, cutOp, mkOp, bounds, natIn, H.kill, beq_self_eq_true, if_pos, if_neg, List.cons_append, List.nil_append, List.append_nil, List.length_cons, List.length_nil, List.length_set, List.take_succ_cons, List.take_zero, List.drop_succ_cons, List.drop_zero, List.take_nil, List.drop_nil, List.all_cons, List.all_nil, ite_self, if_true, if_false, ite_true, ite_false, reduceIte, reduceDIte, eq_self, ne_eq, gt_iff_lt, ge_iff_le, Option.map_some, Option.map_none, Nat.reduceAdd, Nat.reduceMul, Nat.reduceSub, Nat.reduceLT, Nat.reduceLeDiff, Nat.reduceEqDiff, Nat.reduceSucc, Int.reduceAdd, Int.reduceSub, Int.reduceMul, Int.reduceNeg, Int.reduceLT, Int.reduceLE, Int.reduceEq, Int.reduceNe, Int.reduceToNat, Int.reduceTMod, Int.reduceTDiv, Int.reduceFDiv, Int.reducePow, Nat.reduceMod, Nat.reduceAnd, Nat.reduceDiv, Nat.reducePow, ]
    refine floop (rows := rows) (now := x) hr o1 (by omega) (fun hlt => gd_lay (by omega) hlt) (fun he => by unfold cx; rw [if_pos (by omega)]) (by omega) (by omega) (fun _ => by omega) ?_
    exact (L _ h.nx (ext_new _ _) (Nat.le_refl _)).kw k1
theorem main (from_ : Int) (off : Int) (steps : V) (wfrom_ : (Lit.int .i64 from_).wf = true) (woff : (Lit.int .i64 off).wf = true) (h2 : H) (s2 : SlOK [.i .i64] ⟨0, .l⟩ steps h2) : Fnc IrWheelFar.IP 8 [.i .i64 from_, .i .i64 off, steps] h2 (fun v _ => v = .b true) := by
  obtain ⟨rows, hr, L⟩ := ofSl s2 (fun _ h => num_of h)
  exact core hr L
theorem law : ∀ vs h, ArgsOK shape ⟨0, .l⟩ vs h → ∃ k h', ev IrWheelFar.IP k 8 vs h = some (.b true, h') := by
  rintro vs h ⟨_, _, ⟨_, _, rfl, ⟨from_, rfl, wfrom_⟩, rfl⟩, rfl, _, _, ⟨_, _, rfl, ⟨off, rfl, woff⟩, rfl⟩, rfl, steps, _, h2, s2, rfl, rfl, rfl⟩
  exact law_of_fnc (main from_ off steps wfrom_ woff h s2)
end Go.Proofs.Ytonhcimkodgijaa.PureWheelFar
