/-
  Rules for the abstract machine without its fuel: what a function, a statement, a row of operations comes to.
-/
import Derived.Test.YtonhcimkodgijaaMxP
namespace Mx
open Go

section
variable {C C' : Nat → List V → H → Option (V × H)}

theorem eff1_mono (hC : ∀ f a h r, C f a h = some r → C' f a h = some r) {ts : T} {h : H} {o : EO} {r : V × H} (e : eff1 C ts h o = some r) : eff1 C' ts h o = some r := by
  cases o <;> simp only [eff1] at e ⊢ <;> first | exact e | exact hC _ _ _ _ e | (split at e <;> first | exact hC _ _ _ _ e | cases e)

theorem op1_mono (hC : ∀ f a h r, C f a h = some r → C' f a h = some r) {ts : T} {h : H} {o : Op} {r : V × H} (e : op1 C ts h o = some r) : op1 C' ts h o = some r := by
  cases o <;> simp only [op1] at e ⊢ <;> first | exact e | exact eff1_mono hC e

theorem iop_mono (hC : ∀ f a h r, C f a h = some r → C' f a h = some r) {ts : T} {h : H} {o : IOp} {r : T × H} (e : iop C o ts h = some r) : iop C' o ts h = some r := by
  unfold iop at e ⊢
  split at e
  · split at e
    · rename_i v h' ho
      rw [op1_mono hC ho]; exact e
    · cases e
  · exact e
  · cases e

theorem iops_mono (hC : ∀ f a h r, C f a h = some r → C' f a h = some r) : ∀ {l : List IOp} {ts : T} {h : H} {r : T × H}, iops C l ts h = some r → iops C' l ts h = some r
  | [], _, _, _, e => e
  | o :: l, ts, h, r, e => by
    simp only [iops] at e ⊢
    split at e
    · rename_i ts' h' ho
      rw [iop_mono hC ho]; exact iops_mono hC e
    · cases e

theorem trace_mono (hC : ∀ f a h r, C f a h = some r → C' f a h = some r) : ∀ {l : List IOp} {ts : T} {h : H} {r : List (T × H)}, trace C l ts h = some r → trace C' l ts h = some r
  | [], _, _, _, e => e
  | o :: l, ts, h, r, e => by
    simp only [trace] at e ⊢
    split at e
    · rename_i ts' h' ho
      rw [iop_mono hC ho]
      simp only
      split at e
      · rename_i r' hr
        rw [trace_mono hC hr]; exact e
      · cases e
    · cases e

theorem idraw_mono (hC : ∀ f a h r, C f a h = some r → C' f a h = some r) {l : List IOp} {ps : List (Nat × Nat)} {ts : T} {h : H} {r : T × H} (e : idraw C l ps ts h = some r) : idraw C' l ps ts h = some r := by
  unfold idraw at e ⊢
  split at e
  · exact iops_mono hC e
  · split at e
    · rename_i st hs
      rw [trace_mono hC hs]
      simp only
      split at e
      · rename_i hp
        rw [if_pos hp]; exact iops_mono hC e
      · cases e
    · cases e

theorem loopN_mono {b b' : T → H → Option (X × T × H)} (hb : ∀ ts h r, b ts h = some r → b' ts h = some r) : ∀ {n n' : Nat}, n ≤ n' → ∀ {ts : T} {h : H} {r : X × T × H}, loopN b n ts h = some r → loopN b' n' ts h = some r
  | 0, _, _, _, _, _, e => by simp [loopN] at e
  | n + 1, 0, hn, _, _, _, _ => by omega
  | n + 1, n' + 1, hn, ts, h, r, e => by
    simp only [loopN] at e ⊢
    cases hx : b ts h with
    | none => rw [hx] at e; cases e
    | some y =>
      rw [hb _ _ _ hx]
      rw [hx] at e
      obtain ⟨x, ts', h'⟩ := y
      cases x <;> simp only at e ⊢ <;> first | exact e | exact loopN_mono hb (by omega) e

theorem runC_mono (hC : ∀ f a h r, C f a h = some r → C' f a h = some r) {k k' : Nat} (hk : k ≤ k') : ∀ {c : IC} {ts : T} {h : H} {r : X × T × H}, runC C k c ts h = some r → runC C' k' c ts h = some r
  | .skip, _, _, _, e => e
  | .region ops, ts, h, r, e => by
    simp only [runC] at e ⊢
    split at e
    · rename_i ts' h' ho
      rw [iops_mono hC ho]; exact e
    · cases e
  | .draw ops ps, ts, h, r, e => by
    simp only [runC] at e ⊢
    split at e
    · rename_i ts' h' ho
      rw [idraw_mono hC ho]; exact e
    · cases e
  | .seq a b, ts, h, r, e => by
    simp only [runC] at e ⊢
    cases hx : runC C k a ts h with
    | none => rw [hx] at e; cases e
    | some y =>
      rw [runC_mono hC hk hx]
      rw [hx] at e
      obtain ⟨x, ts', h'⟩ := y
      cases x <;> simp only at e ⊢ <;> first | exact e | exact runC_mono hC hk e
  | .cond c a b, ts, h, r, e => by
    simp only [runC] at e ⊢
    split at e
    · rename_i hc; exact runC_mono hC hk e
    · rename_i hc; exact runC_mono hC hk e
    · cases e
  | .block id c, ts, h, r, e => by
    simp only [runC] at e ⊢
    cases hx : runC C k c ts h with
    | none => rw [hx] at e; cases e
    | some y =>
      rw [runC_mono hC hk hx]
      rw [hx] at e
      exact e
  | .loop c, ts, h, r, e => by
    simp only [runC] at e ⊢
    exact loopN_mono (fun ts h r e => runC_mono hC hk e) hk e
  | .exit id, _, _, _, e => e
  | .ret, _, _, _, e => e
end

theorem ev_mono {IP : Nat → Option IFn} : ∀ {k k' : Nat}, k ≤ k' → ∀ {f : Nat} {a : List V} {h : H} {r : V × H}, ev IP k f a h = some r → ev IP k' f a h = some r
  | 0, _, _, _, _, _, _, e => by simp [ev] at e
  | k + 1, 0, hk, _, _, _, _, _ => by omega
  | k + 1, k' + 1, hk, f, a, h, r, e => by
    have hkk : k ≤ k' := by omega
    unfold ev at e ⊢
    cases hf : IP f with
    | none => rw [hf] at e; cases e
    | some fn =>
      rw [hf] at e
      simp only at e ⊢
      cases hr : runC (ev IP k) k fn.body (a ++ List.replicate (fn.ntmps - a.length) undefV) h with
      | none => rw [hr] at e; cases e
      | some y =>
        rw [runC_mono (fun f a h r e => ev_mono hkk e) hkk hr]
        rw [hr] at e
        exact e

/-! ### without fuel -/
section
variable (IP : Nat → Option IFn)

def Fnc (f : Nat) (a : List V) (h : H) (Q : V → H → Prop) : Prop := ∃ k v h', ev IP k f a h = some (v, h') ∧ Q v h'
def Cod (c : IC) (ts : T) (h : H) (Q : X → T → H → Prop) : Prop := ∃ k x ts' h', runC (ev IP k) k c ts h = some (x, ts', h') ∧ Q x ts' h'
def Ors (l : List IOp) (ts : T) (h : H) (Q : T → H → Prop) : Prop := ∃ k ts' h', iops (ev IP k) l ts h = some (ts', h') ∧ Q ts' h'
/-- one operation -/
def O1 (o : Op) (ts : T) (h : H) (Q : V → H → Prop) : Prop := ∃ k v h', op1 (ev IP k) ts h o = some (v, h') ∧ Q v h'
/-- a row of operations of open order: the states ahead of each are kept -/
def Tc (l : List IOp) (ts : T) (h : H) (Q : List (T × H) → T → H → Prop) : Prop := ∃ k st ts' h', trace (ev IP k) l ts h = some st ∧ iops (ev IP k) l ts h = some (ts', h') ∧ Q st ts' h'
/-- how a function's body ends -/
def endsAs (rs : List RV) (Q : V → H → Prop) : X → T → H → Prop := fun x ts h =>
  match x with
  | .exit _ => False
  | _ => match resOf ts h rs with
    | some v => Q v h
    | none => False

variable {IP}

theorem Fnc.mono {f : Nat} {a : List V} {h : H} {Q Q' : V → H → Prop} (hf : Fnc IP f a h Q) (hq : ∀ v h', Q v h' → Q' v h') : Fnc IP f a h Q' := by
  obtain ⟨k, v, h', e, q⟩ := hf
  exact ⟨k, v, h', e, hq _ _ q⟩
theorem Cod.mono {c : IC} {ts : T} {h : H} {Q Q' : X → T → H → Prop} (hf : Cod IP c ts h Q) (hq : ∀ x ts h', Q x ts h' → Q' x ts h') : Cod IP c ts h Q' := by
  obtain ⟨k, x, ts', h', e, q⟩ := hf
  exact ⟨k, x, ts', h', e, hq _ _ _ q⟩

theorem Fnc_iff {f : Nat} {fn : IFn} (hf : IP f = some fn) (a : List V) (h : H) (Q : V → H → Prop) :
    Fnc IP f a h Q ↔ Cod IP fn.body (a ++ List.replicate (fn.ntmps - a.length) undefV) h (endsAs fn.results Q) := by
  constructor
  · rintro ⟨k, v, h', e, q⟩
    cases k with
    | zero => simp [ev] at e
    | succ k =>
      unfold ev at e
      rw [hf] at e
      simp only at e
      cases hr : runC (ev IP k) k fn.body (a ++ List.replicate (fn.ntmps - a.length) undefV) h with
      | none => rw [hr] at e; cases e
      | some y =>
        obtain ⟨x, ts, h1⟩ := y
        rw [hr] at e
        refine ⟨k, x, ts, h1, hr, ?_⟩
        unfold endsAs
        cases x with
        | exit id => cases e
        | normal =>
          simp only at e ⊢
          split at e
          · rename_i u hu
            cases e
            rw [hu]; exact q
          · cases e
        | ret =>
          simp only at e ⊢
          split at e
          · rename_i u hu
            cases e
            rw [hu]; exact q
          · cases e
  · rintro ⟨k, x, ts, h1, hr, q⟩
    unfold endsAs at q
    cases x with
    | exit id => exact q.elim
    | normal =>
      simp only at q
      split at q
      · rename_i u hu
        refine ⟨k + 1, u, h1, ?_, q⟩
        unfold ev
        rw [hf]
        simp only
        rw [hr]
        simp only
        rw [hu]
      · exact q.elim
    | ret =>
      simp only at q
      split at q
      · rename_i u hu
        refine ⟨k + 1, u, h1, ?_, q⟩
        unfold ev
        rw [hf]
        simp only
        rw [hr]
        simp only
        rw [hu]
      · exact q.elim

theorem evm {k k' : Nat} (hk : k ≤ k') : ∀ f a h r, ev IP k f a h = some r → ev IP k' f a h = some r := fun _ _ _ _ e => ev_mono hk e

theorem Cod_skip (ts : T) (h : H) (Q : X → T → H → Prop) : Cod IP .skip ts h Q ↔ Q .normal ts h :=
  ⟨fun ⟨_, _, _, _, e, q⟩ => by simp only [runC] at e; cases e; exact q, fun q => ⟨0, _, _, _, rfl, q⟩⟩
theorem Cod_exit (id : Nat) (ts : T) (h : H) (Q : X → T → H → Prop) : Cod IP (.exit id) ts h Q ↔ Q (.exit id) ts h :=
  ⟨fun ⟨_, _, _, _, e, q⟩ => by simp only [runC] at e; cases e; exact q, fun q => ⟨0, _, _, _, rfl, q⟩⟩
theorem Cod_ret (ts : T) (h : H) (Q : X → T → H → Prop) : Cod IP .ret ts h Q ↔ Q .ret ts h :=
  ⟨fun ⟨_, _, _, _, e, q⟩ => by simp only [runC] at e; cases e; exact q, fun q => ⟨0, _, _, _, rfl, q⟩⟩

theorem Cod_region (l : List IOp) (ts : T) (h : H) (Q : X → T → H → Prop) : Cod IP (.region l) ts h Q ↔ Ors IP l ts h (Q .normal) := by
  constructor
  · rintro ⟨k, x, ts', h', e, q⟩
    simp only [runC] at e
    split at e
    · rename_i ts1 h1 ho
      cases e
      exact ⟨k, _, _, ho, q⟩
    · cases e
  · rintro ⟨k, ts', h', e, q⟩
    refine ⟨k, _, _, _, ?_, q⟩
    simp only [runC]
    rw [e]

theorem Cod_draw_nil (l : List IOp) (ts : T) (h : H) (Q : X → T → H → Prop) : Cod IP (.draw l []) ts h Q ↔ Ors IP l ts h (Q .normal) := by
  rw [← Cod_region]
  unfold Cod
  simp only [runC, idraw]

theorem Cod_draw (l : List IOp) (p : Nat × Nat) (ps : List (Nat × Nat)) (ts : T) (h : H) (Q : X → T → H → Prop) :
    Cod IP (.draw l (p :: ps)) ts h Q ↔ Tc IP l ts h (fun st ts' h' => ((p :: ps).all fun p => steady l st p.1 p.2) = true ∧ Q .normal ts' h') := by
  constructor
  · rintro ⟨k, x, ts', h', e, q⟩
    simp only [runC, idraw] at e
    cases ht : trace (ev IP k) l ts h with
    | none => rw [ht] at e; cases e
    | some st =>
      rw [ht] at e
      simp only at e
      split at e
      · rename_i ts1 h1 ho
        cases e
        split at ho
        · rename_i hp
          exact ⟨k, st, _, _, ht, ho, hp, q⟩
        · cases ho
      · cases e
  · rintro ⟨k, st, ts', h', ht, e, hp, q⟩
    refine ⟨k, _, _, _, ?_, q⟩
    simp only [runC, idraw]
    rw [ht]
    simp only
    rw [if_pos hp, e]

theorem Cod_seq (a b : IC) (ts : T) (h : H) (Q : X → T → H → Prop) :
    Cod IP (.seq a b) ts h Q ↔ Cod IP a ts h (fun x ts' h' => match x with | .normal => Cod IP b ts' h' Q | x => Q x ts' h') := by
  constructor
  · rintro ⟨k, x, ts', h', e, q⟩
    simp only [runC] at e
    cases hx : runC (ev IP k) k a ts h with
    | none => rw [hx] at e; cases e
    | some y =>
      obtain ⟨x1, ts1, h1⟩ := y
      rw [hx] at e
      refine ⟨k, x1, ts1, h1, hx, ?_⟩
      cases x1 with
      | normal => exact ⟨k, x, ts', h', e, q⟩
      | exit id => cases e; exact q
      | ret => cases e; exact q
  · rintro ⟨k, x1, ts1, h1, e1, q⟩
    cases x1 with
    | normal =>
      obtain ⟨k2, x, ts', h', e2, q⟩ := q
      refine ⟨k + k2, x, ts', h', ?_, q⟩
      simp only [runC]
      rw [runC_mono (evm (Nat.le_add_right k k2)) (Nat.le_add_right k k2) e1]
      exact runC_mono (evm (Nat.le_add_left k2 k)) (Nat.le_add_left k2 k) e2
    | exit id => exact ⟨k, _, _, _, by simp only [runC]; rw [e1], q⟩
    | ret => exact ⟨k, _, _, _, by simp only [runC]; rw [e1], q⟩

theorem Cod_cond (c : Opd) (a b : IC) (ts : T) (h : H) (Q : X → T → H → Prop) :
    Cod IP (.cond c a b) ts h Q ↔ ∃ x, opd ts c = .b x ∧ (if x = true then Cod IP a ts h Q else Cod IP b ts h Q) := by
  constructor
  · rintro ⟨k, x, ts', h', e, q⟩
    simp only [runC] at e
    split at e
    · rename_i hc; exact ⟨true, hc, by rw [if_pos rfl]; exact ⟨k, x, ts', h', e, q⟩⟩
    · rename_i hc; exact ⟨false, hc, by rw [if_neg (by simp)]; exact ⟨k, x, ts', h', e, q⟩⟩
    · cases e
  · rintro ⟨x, hc, q⟩
    cases x with
    | true =>
      rw [if_pos rfl] at q
      obtain ⟨k, x, ts', h', e, q⟩ := q
      exact ⟨k, x, ts', h', by simp only [runC]; rw [hc]; exact e, q⟩
    | false =>
      rw [if_neg (by simp)] at q
      obtain ⟨k, x, ts', h', e, q⟩ := q
      exact ⟨k, x, ts', h', by simp only [runC]; rw [hc]; exact e, q⟩

theorem Cod_block (id : Nat) (c : IC) (ts : T) (h : H) (Q : X → T → H → Prop) :
    Cod IP (.block id c) ts h Q ↔ Cod IP c ts h (fun x ts' h' => match x with | .exit id' => if id' = id then Q .normal ts' h' else Q (.exit id') ts' h' | x => Q x ts' h') := by
  constructor
  · rintro ⟨k, x, ts', h', e, q⟩
    simp only [runC] at e
    cases hx : runC (ev IP k) k c ts h with
    | none => rw [hx] at e; cases e
    | some y =>
      obtain ⟨x1, ts1, h1⟩ := y
      rw [hx] at e
      refine ⟨k, x1, ts1, h1, hx, ?_⟩
      cases x1 with
      | normal => cases e; exact q
      | exit id' =>
        simp only at e ⊢
        split at e <;> rename_i hid
        · cases e; rw [if_pos hid]; exact q
        · cases e; rw [if_neg hid]; exact q
      | ret => cases e; exact q
  · rintro ⟨k, x1, ts1, h1, e1, q⟩
    cases x1 with
    | normal => exact ⟨k, _, _, _, by simp only [runC]; rw [e1], q⟩
    | exit id' =>
      simp only at q
      split at q <;> rename_i hid
      · exact ⟨k, _, _, _, by simp only [runC]; rw [e1]; simp only; rw [if_pos hid], q⟩
      · exact ⟨k, _, _, _, by simp only [runC]; rw [e1]; simp only; rw [if_neg hid], q⟩
    | ret => exact ⟨k, _, _, _, by simp only [runC]; rw [e1], q⟩

/-- one round, then the rest -/
theorem Cod_loop (c : IC) (ts : T) (h : H) (Q : X → T → H → Prop) (hc : Cod IP c ts h (fun x ts' h' => match x with | .normal => Cod IP (.loop c) ts' h' Q | x => Q x ts' h')) : Cod IP (.loop c) ts h Q := by
  obtain ⟨k, x1, ts1, h1, e1, q⟩ := hc
  cases x1 with
  | normal =>
    obtain ⟨k2, x, ts', h', e2, q⟩ := q
    refine ⟨k + k2 + 1, x, ts', h', ?_, q⟩
    simp only [runC, loopN]
    rw [runC_mono (evm (show k ≤ k + k2 + 1 by omega)) (show k ≤ k + k2 + 1 by omega) e1]
    simp only [runC] at e2
    exact loopN_mono (fun ts h r e => runC_mono (evm (show k2 ≤ k + k2 + 1 by omega)) (show k2 ≤ k + k2 + 1 by omega) e) (by omega) e2
  | exit id =>
    refine ⟨k + 1, _, _, _, ?_, q⟩
    simp only [runC, loopN]
    rw [runC_mono (evm (Nat.le_succ k)) (Nat.le_succ k) e1]
  | ret =>
    refine ⟨k + 1, _, _, _, ?_, q⟩
    simp only [runC, loopN]
    rw [runC_mono (evm (Nat.le_succ k)) (Nat.le_succ k) e1]

theorem Cod_loop_inv1 (c : IC) (ts : T) (h : H) (Q : X → T → H → Prop) (hc : Cod IP (.loop c) ts h Q) : Cod IP c ts h (fun x ts' h' => match x with | .normal => Cod IP (.loop c) ts' h' Q | x => Q x ts' h') := by
  obtain ⟨k, x, ts', h', e, q⟩ := hc
  simp only [runC] at e
  cases k with
  | zero => simp [loopN] at e
  | succ k =>
    simp only [loopN] at e
    cases hx : runC (ev IP (k + 1)) (k + 1) c ts h with
    | none => rw [hx] at e; cases e
    | some y =>
      obtain ⟨x1, ts1, h1⟩ := y
      rw [hx] at e
      refine ⟨k + 1, x1, ts1, h1, hx, ?_⟩
      cases x1 with
      | normal =>
        refine ⟨k + 1, x, ts', h', ?_, q⟩
        simp only [runC]
        exact loopN_mono (fun _ _ _ e => e) (Nat.le_succ k) e
      | exit id => cases e; exact q
      | ret => cases e; exact q

/-- a loop with what stays true, and a number that falls -/
theorem Cod_loop_inv (I : Nat → T → H → Prop) {c : IC} {Q : X → T → H → Prop}
    (hc : ∀ n ts h, I n ts h → Cod IP c ts h (fun x ts' h' => match x with | .normal => ∃ m, m < n ∧ I m ts' h' | x => Q x ts' h')) : ∀ n ts h, I n ts h → Cod IP (.loop c) ts h Q := by
  intro n
  induction n using Nat.strongRecOn with
  | _ n ih =>
    intro ts h hi
    refine Cod_loop c ts h Q ((hc n ts h hi).mono ?_)
    intro x ts' h' q
    cases x with
    | normal => obtain ⟨m, hm, hi'⟩ := q; exact ih m hm ts' h' hi'
    | exit id => exact q
    | ret => exact q

theorem Ors_nil (ts : T) (h : H) (Q : T → H → Prop) : Ors IP [] ts h Q ↔ Q ts h :=
  ⟨fun ⟨_, _, _, e, q⟩ => by simp only [iops] at e; cases e; exact q, fun q => ⟨0, _, _, rfl, q⟩⟩

theorem Ors_cons (d : Option Nat) (o : Op) (l : List IOp) (ts : T) (h : H) (Q : T → H → Prop) :
    Ors IP (⟨d, o, none⟩ :: l) ts h Q ↔ O1 IP o ts h (fun v h' => Ors IP l (putT ts d v) h' Q) := by
  constructor
  · rintro ⟨k, ts', h', e, q⟩
    simp only [iops, iop, wants] at e
    cases ho : op1 (ev IP k) ts h o with
    | none => rw [ho] at e; cases e
    | some y =>
      obtain ⟨v, h1⟩ := y
      rw [ho] at e
      exact ⟨k, v, h1, ho, k, ts', h', e, q⟩
  · rintro ⟨k, v, h1, ho, k2, ts', h', e, q⟩
    refine ⟨k + k2, ts', h', ?_, q⟩
    simp only [iops, iop, wants]
    rw [op1_mono (evm (Nat.le_add_right k k2)) ho]
    exact iops_mono (evm (Nat.le_add_left k2 k)) e

theorem Ors_guard (d : Option Nat) (o : Op) (t : Nat) (w : Bool) (l : List IOp) (ts : T) (h : H) (Q : T → H → Prop) :
    Ors IP (⟨d, o, some (t, w)⟩ :: l) ts h Q ↔ (if wants ts (some (t, w)) = some true then O1 IP o ts h (fun v h' => Ors IP l (putT ts d v) h' Q) else Ors IP l (putT ts d undefV) h Q) := by
  have hw : wants ts (some (t, w)) = some true ∨ wants ts (some (t, w)) = some false := by
    simp only [wants]
    split
    · rename_i x _; cases x <;> cases w <;> simp
    · exact .inr rfl
  rcases hw with hw | hw
  · rw [if_pos hw]
    constructor
    · rintro ⟨k, ts', h', e, q⟩
      simp only [iops, iop, hw] at e
      cases ho : op1 (ev IP k) ts h o with
      | none => rw [ho] at e; cases e
      | some y =>
        obtain ⟨v, h1⟩ := y
        rw [ho] at e
        exact ⟨k, v, h1, ho, k, ts', h', e, q⟩
    · rintro ⟨k, v, h1, ho, k2, ts', h', e, q⟩
      refine ⟨k + k2, ts', h', ?_, q⟩
      simp only [iops, iop, hw]
      rw [op1_mono (evm (Nat.le_add_right k k2)) ho]
      exact iops_mono (evm (Nat.le_add_left k2 k)) e
  · rw [if_neg (by rw [hw]; simp)]
    constructor
    · rintro ⟨k, ts', h', e, q⟩
      simp only [iops, iop, hw] at e
      exact ⟨k, ts', h', e, q⟩
    · rintro ⟨k, ts', h', e, q⟩
      exact ⟨k, ts', h', by simp only [iops, iop, hw]; exact e, q⟩

theorem O1_pu (o : PO) (ts : T) (h : H) (Q : V → H → Prop) : O1 IP (.pu o) ts h Q ↔ ∃ v, pure1 ts o = some v ∧ Q v h := by
  constructor
  · rintro ⟨k, v, h', e, q⟩
    simp only [op1] at e
    split at e
    · rename_i u hu; cases e; exact ⟨_, hu, q⟩
    · cases e
  · rintro ⟨v, e, q⟩
    exact ⟨0, v, h, by simp only [op1]; rw [e], q⟩
theorem O1_al (o : AO) (ts : T) (h : H) (Q : V → H → Prop) : O1 IP (.al o) ts h Q ↔ ∃ v h', alloc1 ts h o = some (v, h') ∧ Q v h' :=
  ⟨fun ⟨_, v, h', e, q⟩ => ⟨v, h', e, q⟩, fun ⟨v, h', e, q⟩ => ⟨0, v, h', e, q⟩⟩
theorem O1_ld (agg : Bool) (n : Nat) (a : Opd) (ts : T) (h : H) (Q : V → H → Prop) : O1 IP (.ld agg n a) ts h Q ↔ ∃ v, load1 ts h agg n a = some v ∧ Q v h := by
  constructor
  · rintro ⟨k, v, h', e, q⟩
    simp only [op1] at e
    split at e
    · rename_i u hu; cases e; exact ⟨_, hu, q⟩
    · cases e
  · rintro ⟨v, e, q⟩
    exact ⟨0, v, h, by simp only [op1]; rw [e], q⟩
theorem O1_call (f : Nat) (args : List Opd) (ts : T) (h : H) (Q : V → H → Prop) : O1 IP (.ef (.call f args)) ts h Q ↔ Fnc IP f (args.map (opd ts)) h Q := Iff.rfl
theorem O1_callv (x : Opd) (args : List Opd) (ts : T) (h : H) (Q : V → H → Prop) : O1 IP (.ef (.callv x args)) ts h Q ↔ ∃ f caps, opd ts x = .fn f caps ∧ Fnc IP f (args.map (opd ts) ++ caps) h Q := by
  constructor
  · rintro ⟨k, v, h', e, q⟩
    simp only [op1, eff1] at e
    split at e
    · rename_i f caps hx; exact ⟨f, caps, hx, k, v, h', e, q⟩
    · cases e
  · rintro ⟨f, caps, hx, k, v, h', e, q⟩
    exact ⟨k, v, h', by simp only [op1, eff1]; rw [hx]; exact e, q⟩
/-- an effect that calls nothing -/
def eff0 (ts : T) (h : H) (o : EO) : Option (V × H) := eff1 (fun _ _ _ => none) ts h o
def EO.calm : EO → Bool
  | .call _ _ => false
  | .callv _ _ => false
  | _ => true
theorem O1_ef (o : EO) (ho : o.calm = true) (ts : T) (h : H) (Q : V → H → Prop) : O1 IP (.ef o) ts h Q ↔ ∃ v h', eff0 ts h o = some (v, h') ∧ Q v h' := by
  have e : ∀ k, eff1 (ev IP k) ts h o = eff0 ts h o := by intro k; cases o <;> first | rfl | cases ho
  unfold O1
  simp only [op1, e]
  exact ⟨fun ⟨_, v, h', e, q⟩ => ⟨v, h', e, q⟩, fun ⟨v, h', e, q⟩ => ⟨0, v, h', e, q⟩⟩

theorem Tc_nil (ts : T) (h : H) (Q : List (T × H) → T → H → Prop) : Tc IP [] ts h Q ↔ Q [(ts, h)] ts h :=
  ⟨fun ⟨_, _, _, _, e1, e2, q⟩ => by simp only [trace] at e1; simp only [iops] at e2; cases e1; cases e2; exact q, fun q => ⟨0, _, _, _, rfl, rfl, q⟩⟩

theorem Tc_cons (d : Option Nat) (o : Op) (l : List IOp) (ts : T) (h : H) (Q : List (T × H) → T → H → Prop) :
    Tc IP (⟨d, o, none⟩ :: l) ts h Q ↔ O1 IP o ts h (fun v h' => Tc IP l (putT ts d v) h' (fun st => Q ((ts, h) :: st))) := by
  constructor
  · rintro ⟨k, st, ts', h', et, e, q⟩
    simp only [iops, trace, iop, wants] at e et
    cases ho : op1 (ev IP k) ts h o with
    | none => rw [ho] at e; cases e
    | some y =>
      obtain ⟨v, h1⟩ := y
      rw [ho] at e et
      simp only at e et
      split at et
      · rename_i r hr
        cases et
        exact ⟨k, v, h1, ho, k, _, ts', h', hr, e, q⟩
      · cases et
  · rintro ⟨k, v, h1, ho, k2, st, ts', h', et, e, q⟩
    refine ⟨k + k2, _, ts', h', ?_, ?_, q⟩
    · simp only [trace, iop, wants]
      rw [op1_mono (evm (Nat.le_add_right k k2)) ho]
      simp only
      rw [trace_mono (evm (Nat.le_add_left k2 k)) et]
    · simp only [iops, iop, wants]
      rw [op1_mono (evm (Nat.le_add_right k k2)) ho]
      exact iops_mono (evm (Nat.le_add_left k2 k)) e

theorem Tc_guard (d : Option Nat) (o : Op) (t : Nat) (w : Bool) (l : List IOp) (ts : T) (h : H) (Q : List (T × H) → T → H → Prop) :
    Tc IP (⟨d, o, some (t, w)⟩ :: l) ts h Q ↔ (if wants ts (some (t, w)) = some true then O1 IP o ts h (fun v h' => Tc IP l (putT ts d v) h' (fun st => Q ((ts, h) :: st))) else Tc IP l (putT ts d undefV) h (fun st => Q ((ts, h) :: st))) := by
  have hw : wants ts (some (t, w)) = some true ∨ wants ts (some (t, w)) = some false := by
    simp only [wants]
    split
    · rename_i x _; cases x <;> cases w <;> simp
    · exact .inr rfl
  rcases hw with hw | hw
  · rw [if_pos hw]
    constructor
    · rintro ⟨k, st, ts', h', et, e, q⟩
      simp only [iops, trace, iop, hw] at e et
      cases ho : op1 (ev IP k) ts h o with
      | none => rw [ho] at e; cases e
      | some y =>
        obtain ⟨v, h1⟩ := y
        rw [ho] at e et
        simp only at e et
        split at et
        · rename_i r hr
          cases et
          exact ⟨k, v, h1, ho, k, _, ts', h', hr, e, q⟩
        · cases et
    · rintro ⟨k, v, h1, ho, k2, st, ts', h', et, e, q⟩
      refine ⟨k + k2, _, ts', h', ?_, ?_, q⟩
      · simp only [trace, iop, hw]
        rw [op1_mono (evm (Nat.le_add_right k k2)) ho]
        simp only
        rw [trace_mono (evm (Nat.le_add_left k2 k)) et]
      · simp only [iops, iop, hw]
        rw [op1_mono (evm (Nat.le_add_right k k2)) ho]
        exact iops_mono (evm (Nat.le_add_left k2 k)) e
  · rw [if_neg (by rw [hw]; simp)]
    constructor
    · rintro ⟨k, st, ts', h', et, e, q⟩
      simp only [iops, trace, iop, hw] at e et
      split at et
      · rename_i r hr
        cases et
        exact ⟨k, _, ts', h', hr, e, q⟩
      · cases et
    · rintro ⟨k, st, ts', h', et, e, q⟩
      exact ⟨k, _, ts', h', by simp only [trace, iop, hw]; rw [et], by simp only [iops, iop, hw]; exact e, q⟩

/-- a function found true, as the row asks it -/
theorem law_of_fnc {f : Nat} {a : List V} {h : H} (hf : Fnc IP f a h (fun v _ => v = .b true)) : ∃ k h', ev IP k f a h = some (.b true, h') := by
  obtain ⟨k, v, h', e, rfl⟩ := hf
  exact ⟨k, h', e⟩
/-- what the kernel has run is so -/
theorem Fnc_run (k : Nat) {f : Nat} {a : List V} {h : H} {r : V × H} (e : ev IP k f a h = some r) {Q : V → H → Prop} (q : Q r.1 r.2) : Fnc IP f a h Q := ⟨k, r.1, r.2, e, q⟩
theorem Fnc_true (k : Nat) {f : Nat} {a : List V} {h : H} (e : (ev IP k f a h).map (·.1) = some (.b true)) : Fnc IP f a h (fun v _ => v = .b true) := by
  cases hr : ev IP k f a h with
  | none => rw [hr] at e; cases e
  | some r => rw [hr] at e; exact ⟨k, r.1, r.2, hr, by simpa using e⟩
end
end Mx
