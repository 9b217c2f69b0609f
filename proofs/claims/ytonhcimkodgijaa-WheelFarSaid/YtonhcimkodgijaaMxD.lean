/-
  Whether two values are equal: the abstract machine's answer is the loaded program's.
-/
import Derived.Test.YtonhcimkodgijaaMxC
import Derived.Laws.StructEq
namespace Mx
open Go

theorem eqList_len : ∀ {ks : List K} {a b : List V} {r : Bool}, eqList ks a b = some r → a.length = ks.length ∧ b.length = ks.length
  | [], [], [], r, _ => ⟨rfl, rfl⟩
  | k :: ks, x :: a, y :: b, r, h => by
    simp only [eqList] at h
    split at h
    · rename_i p q h1 h2
      have := eqList_len h2
      exact ⟨by simp [this.1], by simp [this.2]⟩
    · cases h
  | [], [], y :: b, r, h => by simp [eqList] at h
  | [], x :: a, b, r, h => by simp [eqList] at h
  | k :: ks, [], b, r, h => by simp [eqList] at h
  | k :: ks, x :: a, [], r, h => by simp [eqList] at h

theorem eqList_append : ∀ (ks ls : List K) (a b : List V) (r : Bool), eqList (ks ++ ls) a b = some r →
    ∃ r1 r2, eqList ks (a.take ks.length) (b.take ks.length) = some r1 ∧ eqList ls (a.drop ks.length) (b.drop ks.length) = some r2 ∧ r = (r1 && r2)
  | [], ls, a, b, r, h => ⟨true, r, by simp [eqList], by simpa using h, by simp⟩
  | k :: ks, ls, [], b, r, h => by simp [eqList] at h
  | k :: ks, ls, x :: a, [], r, h => by simp [eqList] at h
  | k :: ks, ls, x :: a, y :: b, r, h => by
    simp only [List.cons_append, eqList] at h
    split at h
    · rename_i p q h1 h2
      cases h
      obtain ⟨r1, r2, h3, h4, rfl⟩ := eqList_append ks ls a b q h2
      exact ⟨p && r1, r2, by simp only [List.length_cons, List.take_succ_cons, eqList, h1, h3], by simpa using h4, by simp [Bool.and_assoc]⟩
    · cases h

def kindsFs (P : Program) (g : TypeId → Option (List K)) : List Field → Nat → Option (List K)
  | [], _ => some []
  | f :: fs, o => if f.name = "_" ∨ f.offset ≠ o then none else
    match g f.type, szOf P f.type with
    | some ks, some k => if ks.length = k then match kindsFs P g fs (o + k) with
        | some r => some (ks ++ r)
        | none => none
      else none
    | _, _ => none

def kindsOf (P : Program) : Nat → TypeId → Option (List K)
  | 0, _ => none
  | d + 1, t => match P.underlying t with
    | some .bool => some [.b]
    | some (.int _) => some [.i]
    | some .string => some [.s]
    | some (.struct fs) => if P.stoodInHeld t = true then none else kindsFs P (kindsOf P d) fs.toList 0
    | some (.array n e) => match kindsOf P d e, szOf P e with
      | some ks, some k => if ks.length = k then some (List.replicate n ks).flatten else none
      | _, _ => none
    | _ => none

/-- a value of so many cells -/
def whole (d : TypeDesc) (l : List Value) : Value := if isAggD d then .agg l.toArray else l.getD 0 undef

theorem run_part {P : Program} {w : World} {t : TypeId} {d : TypeDesc} {k : Nat} (hd : P.underlying t = some d) (hk : szOf P t = some k) (vs : List Value) (off : Nat) (hb : off + k ≤ vs.length) (h0 : isAggD d = false → k = 1) :
    (Go.part t vs.toArray off).run P w = .ok (whole d ((vs.drop off).take k)) w := by
  simp only [Go.part, Sem.run_bind, run_isAgg hd, Result.andThen_ok, whole]
  cases hA : isAggD d with
  | true =>
    simp only [if_true, Sem.run_bind, run_szOf hk, Result.andThen_ok, Sem.run_pure]
    congr 2
    simp [Nat.add_sub_cancel_left]
  | false =>
    have hk1 := h0 hA
    subst hk1
    have hlt : off < vs.length := by omega
    simp only [Bool.false_eq_true, if_false, List.getElem?_toArray, List.getElem?_eq_getElem hlt, Sem.run_pure]
    congr 1
    simp [List.getD, List.getElem?_drop, List.getElem?_eq_getElem hlt]

theorem kinds_desc {P : Program} {d : Nat} {t : TypeId} {ks : List K} (h : kindsOf P d t = some ks) : ∃ ds, P.underlying t = some ds ∧ (isAggD ds = false → ks.length = 1) := by
  cases d with
  | zero => simp [kindsOf] at h
  | succ d =>
    simp only [kindsOf] at h
    split at h
    · rename_i hd; cases h; exact ⟨_, hd, fun _ => rfl⟩
    · rename_i hd; cases h; exact ⟨_, hd, fun _ => rfl⟩
    · rename_i hd; cases h; exact ⟨_, hd, fun _ => rfl⟩
    · rename_i hd; exact ⟨_, hd, fun h => by simp [isAggD] at h⟩
    · rename_i hd; exact ⟨_, hd, fun h => by simp [isAggD] at h⟩
    · cases h

def EqGood (P : Program) (e : En) (w : World) (d : Nat) : Prop :=
  ∀ (t : TypeId) (ks : List K), kindsOf P d t = some ks → ∀ (D : Nat), d ≤ D → ∀ (ds : TypeDesc), P.underlying t = some ds →
    ∀ (xs ys : List V) (r : Bool) (vx vy : List Value), eqList ks xs ys = some r → RL e xs vx → RL e ys vy → (Op.equalIn D t (whole ds vx) (whole ds vy)).run P w = .ok r w

theorem eq_fields {P : Program} {e : En} {w : World} {d : Nat} (ih : EqGood P e w d) {D : Nat} (hD : d ≤ D) : ∀ (fs : List Field) (o : Nat) (ks : List K), kindsFs P (kindsOf P d) fs o = some ks →
    ∀ (xs ys : List V) (r : Bool) (vx vy : List Value), eqList ks (xs.drop o) (ys.drop o) = some r → o ≤ xs.length → o ≤ ys.length → RL e xs vx → RL e ys vy →
    (Op.eqFields D vx.toArray vy.toArray fs).run P w = .ok r w
  | [], o, ks, hk, xs, ys, r, vx, vy, hr, _, _, _, _ => by
    simp only [kindsFs] at hk; cases hk
    have hl := eqList_len hr
    have e1 : xs.drop o = [] := List.eq_nil_of_length_eq_zero hl.1
    have e2 : ys.drop o = [] := List.eq_nil_of_length_eq_zero hl.2
    rw [e1, e2] at hr
    simp only [eqList] at hr; cases hr
    rfl
  | f :: fs, o, ks, hk, xs, ys, r, vx, vy, hr, hox, hoy, rx, ry => by
    simp only [kindsFs] at hk
    split at hk
    · cases hk
    rename_i hne
    have hn : f.name ≠ "_" := fun h => hne (.inl h)
    have ho : f.offset = o := Decidable.byContradiction fun h => hne (.inr h)
    split at hk
    · rename_i k1 k hk1 hkz
      split at hk
      · rename_i hlen
        split at hk
        · rename_i k2 hk2
          cases hk
          obtain ⟨r1, r2, h1, h2, rfl⟩ := eqList_append k1 k2 _ _ _ hr
          obtain ⟨ds, hds, h01⟩ := kinds_desc hk1
          have hl1 := eqList_len h1
          rw [List.length_take, List.length_drop] at hl1
          rw [List.length_take, List.length_drop] at hl1
          have hbx : o + k ≤ vx.length := by rw [← rx.length]; omega
          have hby : o + k ≤ vy.length := by rw [← ry.length]; omega
          have px := run_part (P := P) (w := w) hds hkz vx o hbx (fun h => by rw [← hlen]; exact h01 h)
          have py := run_part (P := P) (w := w) hds hkz vy o hby (fun h => by rw [← hlen]; exact h01 h)
          have hq := ih f.type k1 hk1 D hD ds hds _ _ r1 ((vx.drop o).take k) ((vy.drop o).take k) h1 (by rw [hlen]; exact (rx.drop o).take k) (by rw [hlen]; exact (ry.drop o).take k)
          simp only [Op.eqFields, if_pos hn, Sem.run_bind, ho, px, py, hq, Result.andThen_ok]
          cases r1 with
          | false => simp
          | true =>
            simp only [Bool.not_true, Bool.false_eq_true, if_false, Bool.true_and]
            refine eq_fields ih hD fs (o + k) k2 hk2 xs ys r2 vx vy ?_ (by rw [rx.length]; exact hbx) (by rw [ry.length]; exact hby) rx ry
            rw [hlen, List.drop_drop, List.drop_drop] at h2
            exact h2
        · cases hk
      · cases hk
    · cases hk

theorem eq_array {P : Program} {e : En} {w : World} {d : Nat} (ih : EqGood P e w d) {D : Nat} (hD : d ≤ D) {el : TypeId} {ks : List K} {k : Nat} {ds : TypeDesc} (hk : kindsOf P d el = some ks) (hz : szOf P el = some k) (hlen : ks.length = k) (hds : P.underlying el = some ds) (h01 : isAggD ds = false → ks.length = 1)
    (xs ys : List V) (vx vy : List Value) (rx : RL e xs vx) (ry : RL e ys vy) : ∀ (m i : Nat) (r : Bool), eqList (List.replicate m ks).flatten (xs.drop (i * k)) (ys.drop (i * k)) = some r → i * k ≤ xs.length → i * k ≤ ys.length →
    (do
      let q ← forIn (List.range' i m) ((none, ()) : Option Bool × Unit) fun i _ => do
        let a ← Go.part el vx.toArray (i * k)
        let b ← Go.part el vy.toArray (i * k)
        let r ← Op.equalIn D el a b
        if (!r) = true then pure (ForInStep.done (some false, ())) else pure (ForInStep.yield (none, ()))
      match q.fst with
      | some a => pure a
      | none => pure true : Sem Bool).run P w = .ok r w
  | 0, i, r, hr, _, _ => by
    have hl := eqList_len hr
    have e1 : xs.drop (i * k) = [] := List.eq_nil_of_length_eq_zero (by simpa using hl.1)
    have e2 : ys.drop (i * k) = [] := List.eq_nil_of_length_eq_zero (by simpa using hl.2)
    rw [e1, e2] at hr
    simp [eqList] at hr; subst hr
    simp
  | m + 1, i, r, hr, hox, hoy => by
    rw [List.replicate_succ, List.flatten_cons] at hr
    obtain ⟨r1, r2, h1, h2, rfl⟩ := eqList_append ks _ _ _ _ hr
    have hl1 := eqList_len h1
    rw [List.length_take, List.length_drop] at hl1
    rw [List.length_take, List.length_drop] at hl1
    have hbx : i * k + k ≤ vx.length := by rw [← rx.length]; omega
    have hby : i * k + k ≤ vy.length := by rw [← ry.length]; omega
    have px := run_part (P := P) (w := w) hds hz vx (i * k) hbx (fun h => by rw [← hlen]; exact h01 h)
    have py := run_part (P := P) (w := w) hds hz vy (i * k) hby (fun h => by rw [← hlen]; exact h01 h)
    have hq := ih el ks hk D hD ds hds _ _ r1 ((vx.drop (i * k)).take k) ((vy.drop (i * k)).take k) h1 (by rw [hlen]; exact (rx.drop _).take k) (by rw [hlen]; exact (ry.drop _).take k)
    simp only [List.range'_succ, List.forIn_cons, Sem.run_bind, px, py, hq, Result.andThen_ok]
    cases r1 with
    | false => simp
    | true =>
      have hs : (i + 1) * k = i * k + k := by rw [Nat.add_mul, Nat.one_mul]
      have := eq_array ih hD hk hz hlen hds h01 xs ys vx vy rx ry m (i + 1) r2 (by rw [hlen, List.drop_drop, List.drop_drop] at h2; rw [hs]; exact h2) (by rw [hs, rx.length]; exact hbx) (by rw [hs, ry.length]; exact hby)
      simp only [Sem.run_bind] at this
      simpa using this

theorem eq_good {P : Program} {e : En} {w : World} : ∀ d, EqGood P e w d
  | 0 => fun t ks h => by simp [kindsOf] at h
  | d + 1 => by
    intro t ks h D hD ds hds xs ys r vx vy hr rx ry
    obtain ⟨D, rfl⟩ : ∃ m, D = m + 1 := ⟨D - 1, by omega⟩
    simp only [kindsOf, hds] at h
    cases ds with
    | bool =>
      cases h
      match xs, ys, hr with
      | [x], [y], hr =>
        obtain ⟨a, _, rfl, ha, _⟩ := RL_cons_inv rx
        obtain ⟨b, _, rfl, hb, _⟩ := RL_cons_inv ry
        cases x <;> cases y <;> simp [eqList, eqAtom] at hr
        simp only [R] at ha hb; subst ha; subst hb; subst hr
        exact run_equalIn_bool w D t _ _ hds
      | [], _, hr => simp [eqList] at hr
      | _ :: _ :: _, _, hr => have := (eqList_len hr).1; simp at this
      | [_], [], hr => simp [eqList] at hr
      | [_], _ :: _ :: _, hr => have := (eqList_len hr).2; simp at this
    | int ik =>
      cases h
      match xs, ys, hr with
      | [x], [y], hr =>
        obtain ⟨a, _, rfl, ha, _⟩ := RL_cons_inv rx
        obtain ⟨b, _, rfl, hb, _⟩ := RL_cons_inv ry
        cases x <;> cases y <;> simp [eqList, eqAtom] at hr
        rename_i k1 n1 k2 n2
        by_cases hk : k1 = k2
        · subst hk
          simp at hr
          simp only [R] at ha hb; subst ha; subst hb; subst hr
          exact run_equalIn_int w D t _ _ _ _ hds
        · simp [hk] at hr
      | [], _, hr => simp [eqList] at hr
      | _ :: _ :: _, _, hr => have := (eqList_len hr).1; simp at this
      | [_], [], hr => simp [eqList] at hr
      | [_], _ :: _ :: _, hr => have := (eqList_len hr).2; simp at this
    | string =>
      cases h
      match xs, ys, hr with
      | [x], [y], hr =>
        obtain ⟨a, _, rfl, ha, _⟩ := RL_cons_inv rx
        obtain ⟨b, _, rfl, hb, _⟩ := RL_cons_inv ry
        cases x <;> cases y <;> simp [eqList, eqAtom] at hr
        simp only [R] at ha hb; subst ha; subst hb; subst hr
        exact run_equalIn_string w D t _ _ hds
      | [], _, hr => simp [eqList] at hr
      | _ :: _ :: _, _, hr => have := (eqList_len hr).1; simp at this
      | [_], [], hr => simp [eqList] at hr
      | [_], _ :: _ :: _, hr => have := (eqList_len hr).2; simp at this
    | struct fs =>
      simp only at h
      split at h
      · cases h
      · rename_i hst
        have hf : P.fieldsOf t = fs := by simp [Program.fieldsOf, hds]
        simp only [whole, isAggD, if_true]
        rw [run_equalIn_struct w D t _ _ (by rw [hf]; exact hds) (by simpa using hst), hf]
        exact eq_fields (eq_good d) (by omega) fs.toList 0 ks h xs ys r vx vy (by simpa using hr) (Nat.zero_le _) (Nat.zero_le _) rx ry
    | array n el =>
      simp only at h
      split at h
      · rename_i k1 k hk1 hz
        split at h
        · rename_i hlen
          cases h
          obtain ⟨de, hde, h01⟩ := kinds_desc hk1
          simp only [whole, isAggD, if_true, Op.equalIn, Sem.run_bind, run_underlying hds, Result.andThen_ok, run_szOf hz]
          have := eq_array (eq_good d) (w := w) (D := D) (by omega) hk1 hz hlen hde h01 xs ys vx vy rx ry n 0 r (by simpa using hr) (by simp) (by simp)
          simp only [Std.Legacy.Range.forIn_eq_forIn_range', Std.Legacy.Range.size, Nat.sub_zero, Nat.add_sub_cancel, Nat.div_one]
          simp only [Sem.run_bind] at this
          refine Eq.trans ?_ this
          congr 1
          funext a w'
          cases a.fst <;> rfl
        · cases h
      · cases h
    | _ => cases h

end Mx
