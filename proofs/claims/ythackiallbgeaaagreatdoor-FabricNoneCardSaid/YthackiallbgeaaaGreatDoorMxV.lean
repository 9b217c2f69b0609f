import Derived.Test.YthackiallbgeaaaGreatDoorMxU
namespace Mx
set_option linter.unusedSimpArgs false
open Go
abbrev Rr := Option (V × H)
def rB {α : Type} (o : Option α) (k : α → Rr) : Rr := match o with
  | some a => k a
  | none => none
def rS (v : V) (a b : Rr) : Rr := match v with
  | .b x => (match x with
    | true => a
    | false => b)
  | _ => none
def rG (v : V) (w : Bool) (a b : Rr) : Rr := match v with
  | .b x => (match x, w with
    | true, true => a
    | false, false => a
    | _, _ => b)
  | _ => b
def rC (c : Bool) (a : Rr) : Rr := match c with
  | true => a
  | false => none
def rK (r : Rr) (k : V → H → Rr) : Rr := match r with
  | some p => k p.1 p.2
  | none => none
def rV (C : Nat → List V → H → Rr) (x : V) (a : List V) (h : H) : Rr := match x with
  | .fn f caps => C f (a ++ caps) h
  | _ => none
def rFix {A : Type} : Nat → ((A → H → Rr) → A → H → Rr) → A → H → Rr
  | 0, _ => fun _ _ => none
  | k + 1, F => F (rFix k F)
section
variable (C : Nat → List V → H → Rr) (k : Nat)
def dnOp (d : Option Nat) (op : Op) (K : E → H → Rr) (e : E) (h : H) : Rr :=
  match op with
  | .pu o => match o with
    | .mov x => K (updO e d (oE e x)) h
    | o => rB (pureE e o) fun v => K (updO e d v) h
  | .al o => rB (allocE e h o) fun r => K (updO e d r.1) r.2
  | .ld agg n a => rB (vLd h agg n (oE e a)) fun v => K (updO e d v) h
  | .ef o => match o with
    | .call f args => rK (C f (oL e args) h) fun v h' => K (updO e d v) h'
    | .callv x args => rK (rV C (oE e x) (oL e args) h) fun v h' => K (updO e d v) h'
    | o => rB (effE e h o) fun r => K (updO e d r.1) r.2
def dnOps : List IOp → (E → H → Rr) → E → H → Rr
  | [], Q => Q
  | o :: l, Q => match o.guard with
    | none => dnOp C o.dst o.op (dnOps l Q)
    | some g => fun e h => rG (e g.1) g.2 (dnOp C o.dst o.op (dnOps l Q) e h) (dnOps l Q (updO e o.dst undefV) h)
def dnT : List IOp → (List (E × H) → E → H → Rr) → List (E × H) → E → H → Rr
  | [], Q, st => Q st
  | o :: l, Q, st => match o.guard with
    | none => fun e h => dnOp C o.dst o.op (dnT l Q ((e, h) :: st)) e h
    | some g => fun e h => rG (e g.1) g.2 (dnOp C o.dst o.op (dnT l Q ((e, h) :: st)) e h) (dnT l Q ((e, h) :: st) (updO e o.dst undefV) h)
def rChk (ops : List IOp) (st : List (E × H)) (N : Nat) : List (Nat × Nat) → Rr → Rr
  | [], Q => Q
  | p :: ps, Q => rC (stdyE ops st N p.1 p.2) (rChk ops st N ps Q)
def Qxr (g : E → H → Rr) (Q : X → E → H → Rr) : X → E → H → Rr
  | .normal => g
  | x => Q x
def Qbr (id : Nat) (Q : X → E → H → Rr) : X → E → H → Rr
  | .exit i => bif Nat.beq i id then Q .normal else Q (.exit i)
  | x => Q x
def dn : IC → (X → E → H → Rr) → E → H → Rr
  | .skip, Q => Q .normal
  | .region ops, Q => dnOps C ops (Q .normal)
  | .draw ops ps, Q => match ps with
    | [] => dnOps C ops (Q .normal)
    | p :: ps => dnT C ops (fun st e h => rChk ops ((e, h) :: st) ops.length (p :: ps) (Q .normal e h)) []
  | .seq a b, Q => dn a (Qxr (dn b Q) Q)
  | .cond c a b, Q => fun e h => rS (oE e c) (dn a Q e h) (dn b Q e h)
  | .block id c, Q => dn c (Qbr id Q)
  | .loop c, Q => rFix k fun g => dn c (Qxr g Q)
  | .exit id, Q => Q (.exit id)
  | .ret, Q => Q .ret
def dnRes : List RV → (List V → Rr) → E → H → Rr
  | [], K, _, _ => K []
  | r :: l, K, e, h => match r with
    | .t n => dnRes l (fun vs => K (e n :: vs)) e h
    | .c n agg sz => rB (vLd h agg sz (e n)) fun v => dnRes l (fun vs => K (v :: vs)) e h
def Qrr (rs : List RV) : X → E → H → Rr
  | .exit _ => fun _ _ => none
  | _ => fun e h => dnRes rs (fun vs => some (tupV vs, h)) e h
variable {C k}
theorem dnOp_eq {n : Nat} {d : Option Nat} {op : Op} {ts : T} {h : H} {K : E → H → Rr} {K' : T → H → Rr} (hl : ts.length = n) (hd : dOK n d = true) (hK : ∀ ts h, ts.length = n → K (envOf ts) h = K' ts h) :
    dnOp C d op K (envOf ts) h = match op1 C ts h op with | some (v, h') => K' (putT ts d v) h' | none => none := by
  have hk : ∀ v h', K (updO (envOf ts) d v) h' = K' (putT ts d v) h' := fun v h' => by
    rw [← env_put (by rw [hl]; exact hd)]; exact hK _ _ (by rw [put_len]; exact hl)
  cases op with
  | pu o =>
    have hb : rB (pureE (envOf ts) o) (fun v => K (updO (envOf ts) d v) h) = match op1 C ts h (.pu o) with | some (v, h') => K' (putT ts d v) h' | none => none := by
      rw [pure_env]
      simp only [op1]
      cases pure1 ts o with
      | none => rfl
      | some v => exact hk v h
    cases o <;> first | exact hb | (rw [← hb]; rfl)
  | al o =>
    simp only [dnOp, op1, alloc_env]
    cases alloc1 ts h o with
    | none => rfl
    | some r => exact hk r.1 r.2
  | ld agg m a =>
    simp only [dnOp, op1, ld_env]
    cases load1 ts h agg m a with
    | none => rfl
    | some v => exact hk v h
  | ef o =>
    have hb : o.calm = true → rB (effE (envOf ts) h o) (fun r => K (updO (envOf ts) d r.1) r.2) = match op1 C ts h (.ef o) with | some (v, h') => K' (putT ts d v) h' | none => none := by
      intro ho
      rw [eff_env ts h o ho]
      have e : op1 C ts h (.ef o) = eff0 ts h o := by cases o <;> first | rfl | (simp [EO.calm] at ho)
      rw [e]
      cases eff0 ts h o with
      | none => rfl
      | some r => exact hk r.1 r.2
    cases o <;> first | exact hb rfl | skip
    · rename_i f args
      simp only [dnOp, op1, eff1, oL_env]
      cases C f (args.map (opd ts)) h with
      | none => rfl
      | some r => exact hk r.1 r.2
    · rename_i x args
      simp only [dnOp, op1, eff1, oL_env, oE_env, rV]
      cases opd ts x <;> try rfl
      rename_i f caps
      simp only
      cases C f (args.map (opd ts) ++ caps) h with
      | none => rfl
      | some r => exact hk r.1 r.2
theorem wants_rG {ts : T} {t : Nat} {w : Bool} {A B : Rr} : rG (envOf ts t) w A B = match wants ts (some (t, w)) with | some true => A | _ => B := by
  simp only [wants, envOf, List.getD_eq_getElem?_getD]
  rcases ts[t]? with _ | v
  · rfl
  · cases v <;> try rfl
    rename_i x
    cases x <;> cases w <;> rfl
theorem wants_two {ts : T} {t : Nat} {w : Bool} : wants ts (some (t, w)) = some true ∨ wants ts (some (t, w)) = some false := by
  simp only [wants]
  split
  · rename_i x _; cases x <;> cases w <;> simp
  · exact .inr rfl
theorem dnOps_eq {n : Nat} : ∀ (l : List IOp) {ts : T} {h : H} {K : E → H → Rr} {K' : T → H → Rr}, ts.length = n → opsOK n l = true → (∀ ts h, ts.length = n → K (envOf ts) h = K' ts h) →
    dnOps C l K (envOf ts) h = match iops C l ts h with | some (ts', h') => K' ts' h' | none => none
  | [], ts, h, K, K', hl, _, hK => hK ts h hl
  | ⟨d, op, g⟩ :: l, ts, h, K, K', hl, ho, hK => by
    simp only [opsOK, List.all_cons, Bool.and_eq_true] at ho
    have ih : ∀ ts h, ts.length = n → dnOps C l K (envOf ts) h = match iops C l ts h with | some (ts', h') => K' ts' h' | none => none := fun ts h hl => dnOps_eq l hl ho.2 hK
    have h1 := dnOp_eq (C := C) (op := op) (h := h) hl ho.1 ih
    cases g with
    | none =>
      show dnOp C d op (dnOps C l K) (envOf ts) h = _
      rw [h1]
      simp only [iops, iop, wants]
      cases op1 C ts h op with
      | none => rfl
      | some r => rfl
    | some g =>
      obtain ⟨t, w⟩ := g
      show rG (envOf ts t) w (dnOp C d op (dnOps C l K) (envOf ts) h) (dnOps C l K (updO (envOf ts) d undefV) h) = _
      rw [wants_rG, h1, ← env_put (by rw [hl]; exact ho.1), ih _ _ (by rw [put_len]; exact hl)]
      simp only [iops, iop]
      rcases wants_two (ts := ts) (t := t) (w := w) with hw | hw <;> rw [hw]
      · simp only
        cases op1 C ts h op with
        | none => rfl
        | some r => rfl
theorem rChk_eq {ops : List IOp} {st : List (T × H)} (hs : st.length = ops.length + 1) {A B : Rr} (hab : A = B) : ∀ ps : List (Nat × Nat), (ps.all fun p => Nat.blt p.1 ops.length && Nat.blt p.2 ops.length) = true →
    rChk ops (trE st.reverse) ops.length ps A = if (ps.all fun p => steady ops st p.1 p.2) = true then B else none
  | [], _ => by simp [rChk, hab]
  | p :: ps, h => by
    simp only [List.all_cons, Bool.and_eq_true, Nat.blt_eq] at h
    have ih := rChk_eq hs hab ps (by simpa using h.2)
    rw [rChk, ← stdyE_eq hs h.1.1 h.1.2, ih]
    cases hp : steady ops st p.1 p.2 <;> simp only [rC, List.all_cons, hp, Bool.true_and, Bool.false_and, Bool.false_eq_true, if_false]
theorem dnT_eq {n : Nat} : ∀ (l : List IOp) {ts : T} {h : H} {acc : List (T × H)} {K : List (E × H) → E → H → Rr} {K' : List (T × H) → T → H → Rr}, ts.length = n → opsOK n l = true →
    (∀ acc ts h, ts.length = n → K (trE acc) (envOf ts) h = K' acc ts h) →
    dnT C l K (trE acc) (envOf ts) h = match trace C l ts h, iops C l ts h with | some st, some (ts', h') => K' ((st.take l.length).reverse ++ acc) ts' h' | _, _ => none
  | [], ts, h, acc, K, K', hl, _, hK => by
    simp only [trace, iops, List.length_nil, List.take_zero, List.reverse_nil, List.nil_append]
    exact hK acc ts h hl
  | ⟨d, op, g⟩ :: l, ts, h, acc, K, K', hl, ho, hK => by
    simp only [opsOK, List.all_cons, Bool.and_eq_true] at ho
    have ih : ∀ ts' h', ts'.length = n → dnT C l K ((envOf ts, h) :: trE acc) (envOf ts') h' = match trace C l ts' h', iops C l ts' h' with | some st, some (ts2, h2) => K' ((st.take l.length).reverse ++ (ts, h) :: acc) ts2 h2 | _, _ => none :=
      fun ts' h' hl' => dnT_eq l (acc := (ts, h) :: acc) hl' ho.2 hK
    have h1 := dnOp_eq (C := C) (op := op) (h := h) hl ho.1 ih
    have fin : ∀ (ts1 : T) (h1 : H), (match trace C l ts1 h1, iops C l ts1 h1 with | some st, some (ts2, h2) => K' ((st.take l.length).reverse ++ (ts, h) :: acc) ts2 h2 | _, _ => none) =
        match (match trace C l ts1 h1 with | some r => some ((ts, h) :: r) | none => none), iops C l ts1 h1 with | some st, some (ts2, h2) => K' ((st.take (l.length + 1)).reverse ++ acc) ts2 h2 | _, _ => none := by
      intro ts1 h1
      cases trace C l ts1 h1 with
      | none => rfl
      | some st =>
        cases iops C l ts1 h1 with
        | none => rfl
        | some r => simp [List.take_succ_cons]
    cases g with
    | none =>
      show dnOp C d op (dnT C l K ((envOf ts, h) :: trE acc)) (envOf ts) h = _
      rw [h1]
      simp only [trace, iops, iop, wants]
      cases op1 C ts h op with
      | none => rfl
      | some r => exact fin _ _
    | some g =>
      obtain ⟨t, w⟩ := g
      show rG (envOf ts t) w (dnOp C d op (dnT C l K ((envOf ts, h) :: trE acc)) (envOf ts) h) (dnT C l K ((envOf ts, h) :: trE acc) (updO (envOf ts) d undefV) h) = _
      rw [wants_rG, h1, ← env_put (by rw [hl]; exact ho.1), ih _ _ (by rw [put_len]; exact hl)]
      simp only [trace, iops, iop]
      rcases wants_two (ts := ts) (t := t) (w := w) with hw | hw <;> rw [hw]
      · simp only
        cases op1 C ts h op with
        | none => rfl
        | some r => exact fin _ _
      · exact fin _ _
theorem trace_iops {C : Nat → List V → H → Rr} : ∀ (l : List IOp) (ts : T) (h : H), (∃ st ts' h', trace C l ts h = some (st ++ [(ts', h')]) ∧ iops C l ts h = some (ts', h') ∧ st.length = l.length) ∨ (trace C l ts h = none ∧ iops C l ts h = none)
  | [], ts, h => .inl ⟨[], ts, h, rfl, rfl, rfl⟩
  | o :: l, ts, h => by
    simp only [trace, iops]
    cases iop C o ts h with
    | none => exact .inr ⟨rfl, rfl⟩
    | some r =>
      rcases trace_iops l r.1 r.2 with ⟨st, ts', h', e1, e2, e3⟩ | ⟨e1, e2⟩
      · refine .inl ⟨(ts, h) :: st, ts', h', ?_, e2, by simp [e3]⟩
        simp only [e1]; rfl
      · exact .inr ⟨by simp only [e1], e2⟩
theorem dn_eq {n : Nat} : ∀ (c : IC) {ts : T} {h : H} {Q : X → E → H → Rr} {Q' : X → T → H → Rr}, ts.length = n → c.ok n = true → (∀ x ts h, ts.length = n → Q x (envOf ts) h = Q' x ts h) →
    dn C k c Q (envOf ts) h = match runC C k c ts h with | some (x, ts', h') => Q' x ts' h' | none => none := by
  intro c
  induction c with
  | skip => intro ts h Q Q' hl _ hQ; exact hQ _ _ _ hl
  | exit id => intro ts h Q Q' hl _ hQ; exact hQ _ _ _ hl
  | ret => intro ts h Q Q' hl _ hQ; exact hQ _ _ _ hl
  | region ops =>
    intro ts h Q Q' hl ho hQ
    simp only [dn, runC]
    rw [dnOps_eq ops hl ho (hQ .normal)]
    cases iops C ops ts h <;> rfl
  | draw ops ps =>
    intro ts h Q Q' hl ho hQ
    simp only [IC.ok, Bool.and_eq_true] at ho
    cases ps with
    | nil =>
      simp only [dn, runC, idraw]
      rw [dnOps_eq ops hl ho.1 (hQ .normal)]
      cases iops C ops ts h <;> rfl
    | cons p ps =>
      simp only [dn, runC, idraw]
      have key := dnT_eq (C := C) ops (acc := []) (h := h) (ts := ts) (n := n) (K := fun st e h => rChk ops ((e, h) :: st) ops.length (p :: ps) (Q .normal e h))
        (K' := fun acc ts h => rChk ops (trE ((ts, h) :: acc)) ops.length (p :: ps) (Q' .normal ts h)) hl ho.1 (fun acc ts h hl => by rw [hQ _ _ _ hl]; rfl)
      rw [show trE [] = [] from rfl] at key
      rw [key]
      rcases trace_iops (C := C) ops ts h with ⟨st, ts', h', e1, e2, e3⟩ | ⟨e1, e2⟩
      · rw [e1, e2]
        simp only [List.append_nil]
        have e4 : (List.take ops.length (st ++ [(ts', h')])).reverse = st.reverse := by rw [← e3, List.take_left]
        rw [e4]
        have e5 : (ts', h') :: st.reverse = (st ++ [(ts', h')]).reverse := by simp
        rw [e5, rChk_eq (by simp [e3]) rfl _ ho.2]
        split <;> rename_i hc
        · simp only [hc, if_true]
        · simp only [hc, if_false, Bool.false_eq_true]
      · rw [e1, e2]
  | seq a b iha ihb =>
    intro ts h Q Q' hl ho hQ
    simp only [IC.ok, Bool.and_eq_true] at ho
    simp only [dn, runC]
    rw [iha (Q' := fun x ts' h' => match x with | .normal => (match runC C k b ts' h' with | some (x, ts2, h2) => Q' x ts2 h2 | none => none) | x => Q' x ts' h') hl ho.1 ?_]
    · cases hr : runC C k a ts h with
      | none => rfl
      | some r =>
        obtain ⟨x, ts1, h1⟩ := r
        cases x <;> rfl
    · intro x ts' h' hl'
      cases x with
      | normal => exact ihb hl' ho.2 hQ
      | exit id => exact hQ _ _ _ hl'
      | ret => exact hQ _ _ _ hl'
  | cond c a b iha ihb =>
    intro ts h Q Q' hl ho hQ
    simp only [IC.ok, Bool.and_eq_true] at ho
    simp only [dn, runC, oE_env]
    rw [iha hl ho.1 hQ, ihb hl ho.2 hQ]
    unfold rS
    cases opd ts c <;> try rfl
    rename_i x
    cases x <;> rfl
  | block id c ih =>
    intro ts h Q Q' hl ho hQ
    simp only [dn, runC]
    rw [ih (Q' := fun x ts' h' => match x with | .exit i => if i = id then Q' .normal ts' h' else Q' (.exit i) ts' h' | x => Q' x ts' h') hl ho ?_]
    · cases hr : runC C k c ts h with
      | none => rfl
      | some r =>
        obtain ⟨x, ts1, h1⟩ := r
        cases x with
        | exit i =>
          simp only
          split <;> rfl
        | normal => rfl
        | ret => rfl
    · intro x ts' h' hl'
      cases x with
      | normal => exact hQ _ _ _ hl'
      | exit i =>
        simp only [Qbr]
        by_cases hi : i = id
        · subst hi
          simp only [if_true, Nat.beq_refl, cond_true]
          exact hQ _ _ _ hl'
        · have : Nat.beq i id = false := by
            cases hb : Nat.beq i id with
            | false => rfl
            | true => exact absurd (Nat.eq_of_beq_eq_true hb) hi
          simp only [hi, if_false, this, cond_false]
          exact hQ _ _ _ hl'
      | ret => exact hQ _ _ _ hl'
  | loop c ih =>
    intro ts h Q Q' hl ho hQ
    simp only [dn, runC]
    have main : ∀ m (ts : T) (h : H), ts.length = n → rFix m (fun g => dn C k c (Qxr g Q)) (envOf ts) h = match loopN (runC C k c) m ts h with | some (x, ts', h') => Q' x ts' h' | none => none := by
      intro m
      induction m with
      | zero => intro ts h _; rfl
      | succ m im =>
        intro ts h hl
        simp only [rFix, loopN]
        rw [ih (Q' := fun x ts' h' => match x with | .normal => (match loopN (runC C k c) m ts' h' with | some (x, ts2, h2) => Q' x ts2 h2 | none => none) | x => Q' x ts' h') hl ho ?_]
        · cases hr : runC C k c ts h with
          | none => rfl
          | some r =>
            obtain ⟨x, ts1, h1⟩ := r
            cases x <;> rfl
        · intro x ts' h' hl'
          cases x with
          | normal => exact im _ _ hl'
          | exit id => exact hQ _ _ _ hl'
          | ret => exact hQ _ _ _ hl'
    exact main k ts h hl
theorem dnRes_eq {ts : T} {h : H} {K : List V → Rr} : ∀ (rs : List RV), dnRes rs K (envOf ts) h = match resL ts h rs with | some vs => K vs | none => none := by
  intro rs
  induction rs generalizing K with
  | nil => rfl
  | cons r l ih =>
    cases r with
    | t n =>
      show dnRes l _ _ _ = _
      rw [ih]
      simp only [resL, resV]
      cases resL ts h l <;> rfl
    | c n agg sz =>
      show rB _ _ = _
      have e0 : vLd h agg sz (envOf ts n) = load1 ts h agg sz (.t n) := ld_env ts h agg sz (.t n)
      simp only [resL, resV]
      rw [e0]
      cases load1 ts h agg sz (.t n) with
      | none => rfl
      | some v =>
        show dnRes l _ _ _ = _
        rw [ih]
        cases resL ts h l <;> rfl
theorem fn_dn {fn : IFn} (hok : fn.body.ok fn.ntmps = true) {a : List V} (ha : Nat.ble a.length fn.ntmps = true) (h : H) :
    dn C k fn.body (Qrr fn.results) (envOf a) h = match runC C k fn.body (a ++ List.replicate (fn.ntmps - a.length) undefV) h with
      | some (.normal, ts, h') => (match resOf ts h' fn.results with | some v => some (v, h') | none => none)
      | some (.ret, ts, h') => (match resOf ts h' fn.results with | some v => some (v, h') | none => none)
      | _ => none := by
  have hle : a.length ≤ fn.ntmps := Nat.le_of_ble_eq_true ha
  have e : envOf (a ++ List.replicate (fn.ntmps - a.length) undefV) = envOf a := by
    funext k
    simp only [envOf, List.getD_eq_getElem?_getD, List.getElem?_append, List.getElem?_replicate]
    split
    · rfl
    · rename_i hk
      rw [List.getElem?_eq_none (l := a) (by omega)]
      split <;> rfl
  rw [← e, dn_eq (Q' := fun x ts h => match x with | .exit _ => none | _ => (match resOf ts h fn.results with | some v => some (v, h) | none => none)) fn.body (by simp; omega) hok ?_]
  · cases runC C k fn.body (a ++ List.replicate (fn.ntmps - a.length) undefV) h with
    | none => rfl
    | some r =>
      obtain ⟨x, ts, h'⟩ := r
      cases x <;> rfl
  · intro x ts h _
    have key : dnRes fn.results (fun vs => some (tupV vs, h)) (envOf ts) h = match resOf ts h fn.results with | some v => some (v, h) | none => none := by
      rw [dnRes_eq]
      unfold resOf
      cases resL ts h fn.results with
      | none => rfl
      | some vs => rcases vs with _ | ⟨a, _ | ⟨b, l⟩⟩ <;> rfl
    cases x with
    | exit id => rfl
    | normal => exact key
    | ret => exact key
end
section
variable {C : Nat → List V → H → Rr} {k : Nat}
theorem rG_yes {w : Bool} {A B : Rr} : rG (.b w) w A B = A := by cases w <;> rfl
theorem rG_no {v : V} {w : Bool} {A B : Rr} (hv : v ≠ .b w) : rG v w A B = B := by
  unfold rG
  cases v with
  | b x => cases x <;> cases w <;> first | rfl | exact absurd rfl hv
  | _ => rfl
end
abbrev RF := (Nat → List V → H → Rr) → Nat → List V → H → Rr
def run (RP : Nat → Option RF) : Nat → Nat → List V → H → Rr
  | 0, _, _, _ => none
  | k + 1, f, a, h => match RP f with
    | some F => F (run RP k) k a h
    | none => none
end Mx
