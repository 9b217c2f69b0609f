/-
  A statement's operations, one behind the other: the same in the abstract machine and in the loaded program.
-/
import Derived.Test.YtonhcimkodgijaaMxJ
namespace Mx
open Go

def trOp1 (P : Program) (gs : Nat) (op : Go.Op) : Option Op :=
  match op with
  | .load t x => match P.underlying t, szOf P t with
    | some d, some n => o1 gs x fun a => some (.ld (isAggD d) n a)
    | _, _ => none
  | op => match trPO P gs op with
    | some p => some (.pu p)
    | none => match trAO P gs op with
      | some p => some (.al p)
      | none => match trEO P gs op with
        | some p => some (.ef p)
        | none => match op with
          | .defer _ => none
          | _ => some (.pu (.nilc (.c .nfn)))

def trGuard (ops : Array Oper) : Option (Nat × Bool) → Option (Option (Nat × Bool))
  | none => some none
  | some (j, want) => match (ops[j]?).bind (·.dst) with
    | some t => some (some (t, want))
    | none => none

def trOper (P : Program) (gs : Nat) (ops : Array Oper) (o : Oper) : Option IOp :=
  match trOp1 P gs o.op, trGuard ops o.guard with
  | some op, some g => some { dst := o.dst, op := op, guard := g }
  | _, _ => none

def trOpers (P : Program) (gs : Nat) (ops : Array Oper) : List Oper → Option (List IOp)
  | [] => some []
  | o :: l => match trOper P gs ops o, trOpers P gs ops l with
    | some x, some r => some (x :: r)
    | _, _ => none

def HWf (h : H) : Prop := ∀ id, h.nx ≤ id → h.get id = none
/-- no row's number is given twice -/
def NxMono (C : Nat → List V → H → Option (V × H)) : Prop := ∀ f args h v h', C f args h = some (v, h') → h.nx ≤ h'.nx ∧ (HWf h → HWf h')

theorem HWf.put {h : H} (k : HWf h) {id : Nat} {o : O} (ho : h.get id = some o) (o' : Option O) : HWf (h.put id o') := by
  intro j hj
  rw [H.get_put]
  simp only [H.nx_put] at hj
  have := k j hj
  split
  · rename_i e; subst e; rw [ho] at this; cases this
  · exact this
theorem HWf.new {h : H} (k : HWf h) (o : O) : HWf (h.new o) := by
  intro j hj
  simp only [H.nx_new] at hj
  rw [H.get_new, if_neg (by omega)]
  exact k j (by omega)
theorem HWf.kill {h : H} (k : HWf h) (id : Nat) : HWf (h.kill id) := by
  intro j hj
  rw [H.get_kill]
  split
  · rfl
  · exact k j hj

theorem store_nx {h h' : H} {id off : Nat} {xs : List V} (hs : h.store id off xs = some h') : h'.nx = h.nx := by
  unfold H.store at hs
  split at hs
  · split at hs
    · cases hs; rfl
    · cases hs
  · cases hs
theorem store_wf {h h' : H} {id off : Nat} {xs : List V} (hs : h.store id off xs = some h') (k : HWf h) : HWf h' := by
  unfold H.store at hs
  split at hs
  · rename_i o ho
    split at hs
    · cases hs; exact k.put ho _
    · cases hs
  · cases hs

theorem append1_nx {esz bytes : Nat} {h h' : H} {s v : V} {n : Nat} {new : List V} (ha : append1 esz bytes h s n new = some (v, h')) : h.nx ≤ h'.nx := by
  unfold append1 at ha
  repeat' (split at ha)
  all_goals first
    | (cases ha; done)
    | (cases ha; simp; done)
    | (cases ha; rename_i hst; rw [store_nx hst]; exact Nat.le_refl _)
    | (cases ha; exact Nat.le_refl _)

theorem append1_wf {esz bytes : Nat} {h h' : H} {s v : V} {n : Nat} {new : List V} (ha : append1 esz bytes h s n new = some (v, h')) (k : HWf h) : HWf h' := by
  unfold append1 at ha
  repeat' (split at ha)
  all_goals first
    | (cases ha; done)
    | (cases ha; exact k)
    | (cases ha; exact k.new _)
    | (cases ha; exact (k.kill _).new _)
    | (cases ha; rename_i hst; exact store_wf hst k)

theorem alloc1_wf {ts : T} {h h' : H} {o : AO} {v : V} (hx : alloc1 ts h o = some (v, h')) (k : HWf h) : HWf h' := by
  unfold alloc1 at hx
  repeat' (split at hx)
  all_goals first
    | (cases hx; done)
    | (cases hx; exact k.new _)

theorem appz1_nx {esz bytes : Nat} {z : List V} {h h' : H} {s n v : V} (ha : appz1 esz bytes z h s n = some (v, h')) : h.nx ≤ h'.nx := by
  unfold appz1 at ha
  repeat' (split at ha)
  all_goals first
    | (cases ha; done)
    | (cases ha; exact Nat.le_refl _)
    | (cases ha; simp)
theorem appz1_wf {esz bytes : Nat} {z : List V} {h h' : H} {s n v : V} (ha : appz1 esz bytes z h s n = some (v, h')) (k : HWf h) : HWf h' := by
  unfold appz1 at ha
  repeat' (split at ha)
  all_goals first
    | (cases ha; done)
    | (cases ha; exact k)
    | (cases ha; exact k.new _)
theorem alloc1_nx {ts : T} {h h' : H} {o : AO} {v : V} (hx : alloc1 ts h o = some (v, h')) : h'.nx = h.nx + 1 := by
  unfold alloc1 at hx
  repeat' (split at hx)
  all_goals first
    | (cases hx; done)
    | (cases hx; rfl)

theorem eff1_nx {C : Nat → List V → H → Option (V × H)} (hC : NxMono C) {ts : T} {h h' : H} {o : EO} {v : V} (hx : eff1 C ts h o = some (v, h')) : h.nx ≤ h'.nx := by
  unfold eff1 at hx
  repeat' (split at hx)
  all_goals first
    | (cases hx; done)
    | exact (hC _ _ _ _ _ hx).1
    | exact append1_nx hx
    | exact appz1_nx hx
    | (cases hx; rename_i hst; rw [store_nx hst]; exact Nat.le_refl _)
    | (cases hx; exact Nat.le_refl _)
    | (cases hx; simp)

theorem eff1_wf {C : Nat → List V → H → Option (V × H)} (hC : NxMono C) {ts : T} {h h' : H} {o : EO} {v : V} (hx : eff1 C ts h o = some (v, h')) (k : HWf h) : HWf h' := by
  unfold eff1 at hx
  repeat' (split at hx)
  all_goals first
    | (cases hx; done)
    | exact (hC _ _ _ _ _ hx).2 k
    | exact append1_wf hx k
    | exact appz1_wf hx k
    | (cases hx; exact k)
    | (cases hx; exact k.new _)
    | (cases hx; rename_i hst; exact store_wf hst k)

theorem op1_wf {C : Nat → List V → H → Option (V × H)} (hC : NxMono C) {ts : T} {h h' : H} {o : Op} {v : V} (hx : op1 C ts h o = some (v, h')) (k : HWf h) : HWf h' := by
  unfold op1 at hx
  split at hx
  · split at hx
    · cases hx; exact k
    · cases hx
  · exact alloc1_wf hx k
  · split at hx
    · cases hx; exact k
    · cases hx
  · exact eff1_wf hC hx k

theorem op1_nx {C : Nat → List V → H → Option (V × H)} (hC : NxMono C) {ts : T} {h h' : H} {o : Op} {v : V} (hx : op1 C ts h o = some (v, h')) : h.nx ≤ h'.nx := by
  unfold op1 at hx
  split at hx
  · split at hx
    · cases hx; exact Nat.le_refl _
    · cases hx
  · rw [alloc1_nx hx]; omega
  · split at hx
    · cases hx; exact Nat.le_refl _
    · cases hx
  · exact eff1_nx hC hx

theorem iop_nx {C : Nat → List V → H → Option (V × H)} (hC : NxMono C) {o : IOp} {ts ts' : T} {h h' : H} (hx : iop C o ts h = some (ts', h')) : h.nx ≤ h'.nx := by
  unfold iop at hx
  split at hx
  · split at hx
    · rename_i v h1 hv
      cases hx; exact op1_nx hC hv
    · cases hx
  · cases hx; exact Nat.le_refl _
  · cases hx

theorem iop_wf {C : Nat → List V → H → Option (V × H)} (hC : NxMono C) {o : IOp} {ts ts' : T} {h h' : H} (hx : iop C o ts h = some (ts', h')) (k : HWf h) : HWf h' := by
  unfold iop at hx
  split at hx
  · split at hx
    · rename_i v h1 hv
      cases hx; exact op1_wf hC hv k
    · cases hx
  · cases hx; exact k
  · cases hx

theorem iops_wf {C : Nat → List V → H → Option (V × H)} (hC : NxMono C) : ∀ {l : List IOp} {ts ts' : T} {h h' : H}, iops C l ts h = some (ts', h') → HWf h → HWf h'
  | [], ts, ts', h, h', hx, k => by simp only [iops] at hx; cases hx; exact k
  | o :: l, ts, ts', h, h', hx, k => by
    simp only [iops] at hx
    split at hx
    · rename_i t1 h1 hv
      exact iops_wf hC hx (iop_wf hC hv k)
    · cases hx

theorem iops_nx {C : Nat → List V → H → Option (V × H)} (hC : NxMono C) : ∀ {l : List IOp} {ts ts' : T} {h h' : H}, iops C l ts h = some (ts', h') → h.nx ≤ h'.nx
  | [], ts, ts', h, h', hx => by simp only [iops] at hx; cases hx; exact Nat.le_refl _
  | o :: l, ts, ts', h, h', hx => by
    simp only [iops] at hx
    split at hx
    · rename_i t1 h1 hv
      exact Nat.le_trans (iop_nx hC hv) (iops_nx hC hx)
    · cases hx

section
variable {P : Program} {e : En} {w : World} {gs : Nat}

theorem R_bool_inv {x : V} {b : Bool} (h : R e x (.bool b)) : x = .b b := by
  cases x with
  | b y => simp only [R] at h; cases h; rfl
  | p a => cases a with
    | none => simp only [R] at h; cases h
    | some a => simp only [R] at h; obtain ⟨_, _, h⟩ := h; cases h
  | i k n => simp only [R] at h; cases h
  | s y => simp only [R] at h; cases h
  | sl _ _ _ _ => simp only [R] at h; obtain ⟨_, _, _, h⟩ := h; cases h
  | nsl => simp only [R] at h; cases h
  | es _ => simp only [R] at h; obtain ⟨_, _, h, _⟩ := h; cases h
  | so _ _ _ => obtain ⟨_, _, h, _⟩ := R_so h; cases h
  | fn _ _ => simp only [R] at h; obtain ⟨_, h, _⟩ := h; cases h
  | nfn => simp only [R] at h; cases h
  | agg _ => simp only [R] at h; obtain ⟨_, h, _⟩ := h; cases h
  | tup _ => simp only [R] at h; obtain ⟨_, h, _⟩ := h; cases h

theorem RL.at_inv {l : List V} {vs : List Value} (h : RL e l vs) {k : Nat} {v : Value} (hk : vs[k]? = some v) : ∃ x, l[k]? = some x ∧ R e x v := by
  have hlt : k < l.length := by
    rw [h.length]
    exact (List.getElem?_eq_some_iff.1 hk).1
  obtain ⟨u, h1, h2⟩ := h.at (List.getElem?_eq_getElem hlt)
  rw [hk] at h1; cases h1
  exact ⟨_, List.getElem?_eq_getElem hlt, h2⟩

theorem wants_sound {ts : T} {a : Act} (hr : RL e ts a.tmps.toList) {ops : Array Oper} {o : Oper} {g : Option (Nat × Bool)} (hg : trGuard ops o.guard = some g) : ∃ b, wants ts g = some b ∧ Region.wanted o (yielded ops a.tmps) = b := by
  unfold Region.wanted
  cases ho : o.guard with
  | none =>
    rw [ho] at hg; simp only [trGuard] at hg; cases hg
    exact ⟨true, rfl, rfl⟩
  | some jw =>
    obtain ⟨j, want⟩ := jw
    rw [ho] at hg
    simp only [trGuard] at hg
    split at hg
    · rename_i t ht
      cases hg
      simp only [wants, yielded, ht, Option.bind_some]
      cases hv : a.tmps[t]? with
      | none =>
        have : ts[t]? = none := by
          rw [List.getElem?_eq_none_iff, hr.length]
          simpa using hv
        rw [this]
        exact ⟨false, rfl, by cases want <;> rfl⟩
      | some v =>
        obtain ⟨x, h1, h2⟩ := hr.at_inv (k := t) (v := v) (by simpa using hv)
        rw [h1]
        by_cases hb : ∃ b, v = .bool b
        · obtain ⟨b, rfl⟩ := hb
          rw [R_bool_inv h2]
          refine ⟨b == want, rfl, ?_⟩
          cases b <;> cases want <;> rfl
        · have hx : ∀ b, x ≠ .b b := by
            rintro b rfl
            simp only [R] at h2
            exact hb ⟨b, h2⟩
          refine ⟨false, ?_, ?_⟩
          · cases x <;> first | rfl | exact (hx _ rfl).elim
          · cases v <;> first | (cases want <;> rfl) | exact (hb ⟨_, rfl⟩).elim
    · cases hg

theorem op_sound (hg : Glob e gs) {ts : T} {a : Act} (hr : RL e ts a.tmps.toList) {o : Oper} {io : Op} (ht : trOp1 P gs o.op = some io) {C : Nat → List V → H → Option (V × H)} (hC : CallOK P gs C) {h h' : H} {v : V}
    (hx : op1 C ts h io = some (v, h')) (s : Sim e h w) (hf : Fresh e h.nx h'.nx) {K : Act → World → Prop} {Q : Exit → Act → World → Prop} (hK : ∀ v' w', StepTo e h w v h' v' w' → K (a.put o.dst v') w') : o.wp P a w K Q := by
  have val : ∀ {v' : Value} {w' : World}, (execOp a.eval o).run P w = .ok (.value v') w' → StepTo e h w v h' v' w' → o.wp P a w K Q := by
    intro v' w' h1 h2
    unfold Oper.wp; rw [h1]; exact hK _ _ h2
  unfold trOp1 at ht
  split at ht
  · rename_i t x hop
    split at ht
    · rename_i d n hd hn
      obtain ⟨y, h1, h2⟩ := o1_inv ht
      cases h2
      simp only [op1] at hx
      split at hx
      · rename_i u hu
        cases hx
        obtain ⟨v', k1, k2⟩ := load_sound s hg hr hop hd hn h1 hu
        exact val k1 ⟨e, k2, s, St.refl _ _ _⟩
      · cases hx
    · cases ht
  · split at ht
    · rename_i p hp
      cases ht
      simp only [op1] at hx
      split at hx
      · rename_i u hu
        cases hx
        obtain ⟨v', k1, k2⟩ := pure_sound (P := P) (w := w) hg hr hp hu
        exact val k1 ⟨e, k2, s, St.refl _ _ _⟩
      · cases hx
    · split at ht
      · rename_i p hp
        cases ht
        simp only [op1] at hx
        have hnx := alloc1_nx hx
        obtain ⟨v', w', k1, k2⟩ := alloc_sound hg hr hp hx s (hf _ (Nat.le_refl _) (by omega))
        exact val k1 k2
      · split at ht
        · rename_i p hp
          cases ht
          simp only [op1] at hx
          exact eff_sound hg hr hp hC hx s hf hK
        · split at ht
          · cases ht
          · -- what is not known never comes to anything
            cases ht
            simp only [op1, pure1, opd] at hx; cases hx

theorem RL_put {ts : T} {a : Act} (hr : RL e ts a.tmps.toList) (dst : Option Nat) {v : V} {v' : Value} (hv : R e v v') : RL e (putT ts dst v) (a.put dst v').tmps.toList := by
  cases dst with
  | none => exact hr
  | some d => simp only [putT, Act.put, Array.toList_setIfInBounds]; exact hr.set d hv

theorem put_defers (a : Act) (dst : Option Nat) (v : Value) : (a.put dst v).defers = a.defers := by cases dst <;> rfl

theorem Fresh.sub {e : En} {a b c d : Nat} (h : Fresh e a b) (h1 : a ≤ c) (h2 : d ≤ b) : Fresh e c d := fun id x y => h id (Nat.le_trans h1 x) (Nat.lt_of_lt_of_le y h2)

theorem Fresh.next {e e' : En} {h h1 : H} {w w1 : World} {n : Nat} (hf : Fresh e h.nx n) (st : St e h w e' h1 w1) : Fresh e' h1.nx n := by
  intro id a b
  refine Decidable.byContradiction fun hne => ?_
  have h0 : e id = none := hf id (Nat.le_trans st.nx a) b
  have := st.dom id h0 hne
  omega

/-- what stands behind some code: a frame and a world that stand for the abstract machine's -/
def Then (e : En) (h : H) (w : World) (ds : List Deferred) (x : Exit) (Q : Exit → Act → World → Prop) (ts' : T) (h' : H) : Prop :=
  ∀ e' a' w', RL e' ts' a'.tmps.toList → Sim e' h' w' → St e h w e' h' w' → a'.defers = ds → Q x a' w'

theorem iops_sound {C : Nat → List V → H → Option (V × H)} (hC : CallOK P gs C) (hN : NxMono C) {ops : Array Oper} {Q : Exit → Act → World → Prop} : ∀ (l : List Oper) (il : List IOp), trOpers P gs ops l = some il →
    ∀ (e : En) (w : World) (ts ts' : T) (h h' : H) (a : Act), Glob e gs → iops C il ts h = some (ts', h') → RL e ts a.tmps.toList → Sim e h w → Fresh e h.nx h'.nx → Then e h w a.defers .normal Q ts' h' → wpList P ops Q l a w
  | [], il, ht, e, w, ts, ts', h, h', a, hg, hx, hr, s, hf, hQ => by
    simp only [trOpers] at ht; cases ht
    simp only [iops] at hx; cases hx
    exact hQ e a w hr s (St.refl _ _ _) rfl
  | o :: l, il, ht, e, w, ts, ts', h, h', a, hg, hx, hr, s, hf, hQ => by
    simp only [trOpers] at ht
    split at ht
    · rename_i io r h1 h2
      cases ht
      simp only [iops] at hx
      split at hx
      · rename_i t1 hh1 hio
        have hn1 := iop_nx hN hio
        have hn2 := iops_nx hN hx
        simp only [trOper] at h1
        split at h1
        · rename_i op g hop hgd
          cases h1
          obtain ⟨b, hw1, hw2⟩ := wants_sound hr (ops := ops) hgd
          simp only [iop, hw1] at hio
          unfold wpList
          rw [hw2]
          cases b with
          | true =>
            simp only [if_true]
            simp only at hio
            split at hio
            · rename_i v hh hv
              cases hio
              refine .inl (op_sound hg hr hop hC hv s (hf.sub (Nat.le_refl _) hn2) fun v' w' ⟨e', q1, q2, q3⟩ => ?_)
              refine iops_sound hC hN l r h2 e' w' _ ts' _ h' _ (hg.mono q3.le) hx (RL_put (RL.mono q3.le _ _ hr) o.dst q1) q2 (hf.next q3) ?_
              intro e2 a2 w2 k1 k2 k3 k4
              exact hQ e2 a2 w2 k1 k2 (q3.trans k3) (k4.trans (put_defers _ _ _))
            · cases hio
          | false =>
            simp only [Bool.false_eq_true, if_false]
            simp only at hio
            cases hio
            refine iops_sound hC hN l r h2 e w _ ts' _ h' _ hg hx (RL_put hr o.dst (R_undef e)) s hf ?_
            intro e2 a2 w2 k1 k2 k3 k4
            exact hQ e2 a2 w2 k1 k2 k3 (k4.trans (put_defers _ _ _))
        · cases h1
      · cases hx
    · cases ht
end
end Mx
