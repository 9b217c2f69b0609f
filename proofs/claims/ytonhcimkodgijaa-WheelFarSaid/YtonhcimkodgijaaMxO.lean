/-
  Whole functions: what the abstract machine comes to, the loaded program comes to.
-/
import Derived.Test.YtonhcimkodgijaaMxN
import Derived.Deep.LoopGhost
import Derived.Defers
namespace Mx
open Go

def mkPairs (ops : Array Oper) (il : List IOp) : List (Nat × Nat) :=
  (List.range il.length).flatMap fun l => (List.range il.length).filterMap fun k =>
    match il[l]?, il[k]? with
    | some a, some b => if isLd a && isEff b && !(bef ops l k) && !(bef ops k l) then some (l, k) else none
    | _, _ => none

def trC (P : Program) (gs : Nat) : Code → Option IC
  | .skip => some .skip
  | .region _ ops draw => match trOpers P gs ops ops.toList with
    | some il => if draw then (if drawOK ops il (mkPairs ops il) then some (.draw il (mkPairs ops il)) else none) else some (.region il)
    | none => none
  | .seq a b => match trC P gs a, trC P gs b with
    | some x, some y => some (.seq x y)
    | _, _ => none
  | .cond c a b => match trO gs c, trC P gs a, trC P gs b with
    | some c, some x, some y => some (.cond c x y)
    | _, _, _ => none
  | .block id c => match trC P gs c with
    | some x => some (.block id x)
    | none => none
  | .loop c => match trC P gs c with
    | some x => some (.loop x)
    | none => none
  | .exit id => some (.exit id)
  | .ret => some .ret
  | _ => none

def trRV (P : Program) : ResultVar → Option RV
  | .tmp t => some (.t t)
  | .cell a t => match P.underlying t, szOf P t with
    | some d, some n => some (.c a (isAggD d) n)
    | _, _ => none
def trRVs (P : Program) : List ResultVar → Option (List RV)
  | [] => some []
  | x :: l => match trRV P x, trRVs P l with
    | some y, some r => some (y :: r)
    | _, _ => none

/-! ### a body whose returns are one exit -/
def IC.noRet (B : Nat) : IC → IC
  | .ret => .exit B
  | .seq a b => .seq (a.noRet B) (b.noRet B)
  | .cond c a b => .cond c (a.noRet B) (b.noRet B)
  | .block id c => .block id (c.noRet B)
  | .loop c => .loop (c.noRet B)
  | c => c
def IC.freeOf (B : Nat) : IC → Bool
  | .seq a b => a.freeOf B && b.freeOf B
  | .cond _ a b => a.freeOf B && b.freeOf B
  | .block id c => !(id == B) && c.freeOf B
  | .loop c => c.freeOf B
  | .exit id => !(id == B)
  | _ => true
def X.noRet (B : Nat) : X → X
  | .ret => .exit B
  | x => x
def rNoRet (B : Nat) (r : Option (X × T × H)) : Option (X × T × H) := match r with
  | some (x, ts, h) => some (x.noRet B, ts, h)
  | none => none
/-- a temporary that is not written -/
def IOp.keeps (t : Nat) (o : IOp) : Bool := !(o.dst == some t)
def IC.keeps (t : Nat) : IC → Bool
  | .region l => l.all (IOp.keeps t)
  | .draw l _ => l.all (IOp.keeps t)
  | .seq a b => a.keeps t && b.keeps t
  | .cond _ a b => a.keeps t && b.keeps t
  | .block _ c => c.keeps t
  | .loop c => c.keeps t
  | _ => true

section
variable {C : Nat → List V → H → Option (V × H)} {k B : Nat}
theorem noRet_loop {f g : T → H → Option (X × T × H)} (hfg : ∀ ts h, g ts h = rNoRet B (f ts h)) : ∀ (m : Nat) (ts : T) (h : H), loopN g m ts h = rNoRet B (loopN f m ts h)
  | 0, _, _ => rfl
  | m + 1, ts, h => by
    simp only [loopN]
    rw [hfg]
    cases hf : f ts h with
    | none => rfl
    | some y =>
      obtain ⟨x, t1, h1⟩ := y
      cases x with
      | normal => exact noRet_loop hfg m t1 h1
      | exit id => rfl
      | ret => rfl
theorem noRet_run : ∀ (c : IC), c.freeOf B = true → ∀ (ts : T) (h : H), runC C k (c.noRet B) ts h = rNoRet B (runC C k c ts h)
  | .skip, _, _, _ => rfl
  | .region l, _, ts, h => by
    simp only [IC.noRet, runC]
    cases iops C l ts h with
    | none => rfl
    | some y => rfl
  | .draw l ps, _, ts, h => by
    simp only [IC.noRet, runC]
    cases idraw C l ps ts h with
    | none => rfl
    | some y => rfl
  | .seq a b, hf, ts, h => by
    simp only [IC.freeOf, Bool.and_eq_true] at hf
    simp only [IC.noRet, runC]
    rw [noRet_run a hf.1]
    cases ha : runC C k a ts h with
    | none => rfl
    | some y =>
      obtain ⟨x, t1, h1⟩ := y
      cases x with
      | normal => exact noRet_run b hf.2 t1 h1
      | exit id => rfl
      | ret => rfl
  | .cond c a b, hf, ts, h => by
    simp only [IC.freeOf, Bool.and_eq_true] at hf
    simp only [IC.noRet, runC]
    split
    · exact noRet_run a hf.1 ts h
    · exact noRet_run b hf.2 ts h
    · rfl
  | .block id c, hf, ts, h => by
    simp only [IC.freeOf, Bool.and_eq_true, Bool.not_eq_true', beq_eq_false_iff_ne, ne_eq] at hf
    simp only [IC.noRet, runC]
    rw [noRet_run c hf.2]
    cases hc : runC C k c ts h with
    | none => rfl
    | some y =>
      obtain ⟨x, t1, h1⟩ := y
      cases x with
      | normal => rfl
      | exit id' =>
        simp only [rNoRet, X.noRet]
        split <;> rfl
      | ret =>
        simp only [rNoRet, X.noRet]
        rw [if_neg (fun e => hf.1 e.symm)]
  | .loop c, hf, ts, h => by
    simp only [IC.freeOf] at hf
    simp only [IC.noRet, runC]
    exact noRet_loop (fun ts h => noRet_run c hf ts h) k ts h
  | .exit id, _, _, _ => rfl
  | .ret, _, _, _ => rfl

theorem putT_keep {ts : T} {d : Option Nat} {v : V} {t : Nat} (h : d ≠ some t) : (putT ts d v).getD t undefV = ts.getD t undefV := by
  cases d with
  | none => rfl
  | some d =>
    have : d ≠ t := fun e => h (by rw [e])
    simp only [putT, List.getD_eq_getElem?_getD]
    rw [List.getElem?_set_ne this]
theorem iops_keep {t : Nat} : ∀ (l : List IOp), l.all (IOp.keeps t) = true → ∀ {ts ts' : T} {h h' : H}, iops C l ts h = some (ts', h') → ts'.getD t undefV = ts.getD t undefV
  | [], _, ts, ts', h, h', e => by simp only [iops] at e; cases e; rfl
  | o :: l, hk, ts, ts', h, h', e => by
    simp only [List.all_cons, Bool.and_eq_true] at hk
    have hd : o.dst ≠ some t := by
      have := hk.1
      simp only [IOp.keeps, Bool.not_eq_true', beq_eq_false_iff_ne, ne_eq] at this
      exact this
    simp only [iops] at e
    split at e
    · rename_i t1 h1 ho
      rw [iops_keep l hk.2 e]
      unfold iop at ho
      split at ho
      · split at ho
        · cases ho; exact putT_keep hd
        · cases ho
      · cases ho; exact putT_keep hd
      · cases ho
    · cases e
theorem runC_keep {t : Nat} : ∀ (c : IC), c.keeps t = true → ∀ {ts ts' : T} {h h' : H} {x : X}, runC C k c ts h = some (x, ts', h') → ts'.getD t undefV = ts.getD t undefV
  | .skip, _, ts, ts', h, h', x, e => by simp only [runC] at e; cases e; rfl
  | .exit _, _, ts, ts', h, h', x, e => by simp only [runC] at e; cases e; rfl
  | .ret, _, ts, ts', h, h', x, e => by simp only [runC] at e; cases e; rfl
  | .region l, hk, ts, ts', h, h', x, e => by
    simp only [runC] at e
    split at e
    · rename_i ho; cases e; exact iops_keep l hk ho
    · cases e
  | .draw l ps, hk, ts, ts', h, h', x, e => by
    simp only [runC] at e
    split at e
    · rename_i ho
      cases e
      refine iops_keep l hk (C := C) (h := h) (h' := h') ?_
      unfold idraw at ho
      split at ho
      · exact ho
      · split at ho
        · split at ho
          · exact ho
          · cases ho
        · cases ho
    · cases e
  | .seq a b, hk, ts, ts', h, h', x, e => by
    simp only [IC.keeps, Bool.and_eq_true] at hk
    simp only [runC] at e
    split at e
    · rename_i ha; rw [runC_keep b hk.2 e, runC_keep a hk.1 ha]
    · exact runC_keep a hk.1 e
  | .cond c a b, hk, ts, ts', h, h', x, e => by
    simp only [IC.keeps, Bool.and_eq_true] at hk
    simp only [runC] at e
    split at e
    · exact runC_keep a hk.1 e
    · exact runC_keep b hk.2 e
    · cases e
  | .block id c, hk, ts, ts', h, h', x, e => by
    simp only [runC] at e
    split at e
    · rename_i hc
      split at e <;> (cases e; exact runC_keep c hk hc)
    · exact runC_keep c hk e
  | .loop c, hk, ts, ts', h, h', x, e => by
    simp only [runC] at e
    suffices ∀ (m : Nat) (ts : T) (h : H), loopN (runC C k c) m ts h = some (x, ts', h') → ts'.getD t undefV = ts.getD t undefV from this k ts h e
    intro m
    induction m with
    | zero => intro ts h hl; simp only [loopN] at hl; cases hl
    | succ m ih =>
      intro ts h hl
      simp only [loopN] at hl
      split at hl
      · rename_i hc; rw [ih _ _ hl, runC_keep c hk hc]
      · exact runC_keep c hk hl
def Opd.keptBy (c : IC) : Opd → Bool
  | .t n => c.keeps n
  | _ => true
theorem opd_keep {c : IC} {ts ts' : T} {h h' : H} {x : X} (e : runC C k c ts h = some (x, ts', h')) : ∀ (l : List Opd), l.all (Opd.keptBy c) = true → l.map (opd ts') = l.map (opd ts)
  | [], _ => rfl
  | o :: l, hk => by
    simp only [List.all_cons, Bool.and_eq_true] at hk
    simp only [List.map_cons, opd_keep e l hk.2]
    congr 1
    cases o with
    | t n => simp only [opd]; exact runC_keep c hk.1 e
    | _ => rfl
theorem no_exit : ∀ (c : IC), c.freeOf B = true → ∀ {ts ts' : T} {h h' : H} {x : X}, runC C k c ts h = some (x, ts', h') → x ≠ .exit B
  | .skip, _, ts, ts', h, h', x, e => by simp only [runC] at e; cases e; simp
  | .exit id, hf, ts, ts', h, h', x, e => by
    simp only [IC.freeOf, Bool.not_eq_true', beq_eq_false_iff_ne, ne_eq] at hf
    simp only [runC] at e; cases e
    intro e; cases e; exact hf rfl
  | .ret, _, ts, ts', h, h', x, e => by simp only [runC] at e; cases e; simp
  | .region l, _, ts, ts', h, h', x, e => by
    simp only [runC] at e
    split at e
    · cases e; simp
    · cases e
  | .draw l ps, _, ts, ts', h, h', x, e => by
    simp only [runC] at e
    split at e
    · cases e; simp
    · cases e
  | .seq a b, hf, ts, ts', h, h', x, e => by
    simp only [IC.freeOf, Bool.and_eq_true] at hf
    simp only [runC] at e
    split at e
    · exact no_exit b hf.2 e
    · exact no_exit a hf.1 e
  | .cond c a b, hf, ts, ts', h, h', x, e => by
    simp only [IC.freeOf, Bool.and_eq_true] at hf
    simp only [runC] at e
    split at e
    · exact no_exit a hf.1 e
    · exact no_exit b hf.2 e
    · cases e
  | .block id c, hf, ts, ts', h, h', x, e => by
    simp only [IC.freeOf, Bool.and_eq_true] at hf
    simp only [runC] at e
    split at e
    · rename_i hc
      split at e
      · cases e; simp
      · cases e; exact no_exit c hf.2 hc
    · exact no_exit c hf.2 e
  | .loop c, hf, ts, ts', h, h', x, e => by
    simp only [IC.freeOf] at hf
    simp only [runC] at e
    suffices ∀ (m : Nat) (ts : T) (h : H), loopN (runC C k c) m ts h = some (x, ts', h') → x ≠ .exit B from this k ts h e
    intro m
    induction m with
    | zero => intro ts h hl; simp only [loopN] at hl; cases hl
    | succ m ih =>
      intro ts h hl
      simp only [loopN] at hl
      split at hl
      · exact ih _ _ hl
      · exact no_exit c hf hl
end

/-- the number of the exit that a body's returns are, where a call is deferred -/
def dB : Nat := 999999
/-- the operations ahead of a deferred call, that stands last -/
def splitDef : List Oper → Option (List Oper × Oper)
  | [] => none
  | [o] => match o.op with
    | .defer _ => some ([], o)
    | _ => none
  | o :: l => match splitDef l with
    | some (p, x) => some (o :: p, x)
    | none => none
theorem splitDef_eq : ∀ {l p : List Oper} {o : Oper}, splitDef l = some (p, o) → l = p ++ [o]
  | [], p, o, h => by simp [splitDef] at h
  | [x], p, o, h => by
    simp only [splitDef] at h
    split at h
    · cases h; rfl
    · cases h
  | x :: y :: l, p, o, h => by
    simp only [splitDef] at h
    split at h
    · rename_i p' o' h'
      cases h
      rw [splitDef_eq h']; rfl
    · cases h
/-- a body that, behind plain operations, lays one deferred call of a plain function -/
def trDef (P : Program) (gs : Nat) : Code → Option IC
  | .seq (.region _ ops false) rest => match splitDef ops.toList with
    | some (pre, o) => match o.op, o.guard with
      | .defer c, none => match c.callee with
        | .value (.func g) => match trOs gs c.args.toList, trC P gs rest, P.funcs[g]?, trOpers P gs ops pre with
          | some l, some b, some fg, some il => match fg.body with
            | some cg => if ((trC P gs cg).isSome && b.freeOf dB && l.all (Opd.keptBy (.region [⟨o.dst, .pu (.mov (.c undefV)), none⟩])) && l.all (Opd.keptBy b)) = true then
                some (.seq (.region il) (.seq (.seq (.region [⟨o.dst, .pu (.mov (.c undefV)), none⟩]) (.block dB (b.noRet dB))) (.region [⟨none, .ef (.call g l), none⟩]))) else none
            | none => none
          | _, _, _, _ => none
        | _ => none
      | _, _ => none
    | none => match trOpers P gs ops ops.toList, trDef P gs rest with
      | some il, some r => some (.seq (.region il) r)
      | _, _ => none
  | _ => none

def trBody (P : Program) (gs : Nat) (c : Code) : Option IC := match trC P gs c with
  | some b => some b
  | none => trDef P gs c

def trFn (P : Program) (gs : Nat) (fn : Func) : Option IFn :=
  match fn.body with
  | some c => match trBody P gs c, trRVs P fn.results.toList with
    | some b, some r => if (fn.name == "runtime.NumGoroutine") = false then some { ntmps := fn.ntmps, results := r, body := b } else none
    | _, _ => none
  | none => none

section
variable {P : Program} {gs : Nat} {C : Nat → List V → H → Option (V × H)}

def cnt (D : Nat → Bool) : Nat → Nat
  | 0 => 0
  | m + 1 => (if D m = true then 0 else 1) + cnt D m

theorem cnt_add {D : Nat → Bool} {j : Nat} (hj : D j = false) : ∀ m, (j < m → cnt (add D j) m + 1 = cnt D m) ∧ (m ≤ j → cnt (add D j) m = cnt D m)
  | 0 => ⟨fun h => by omega, fun _ => rfl⟩
  | m + 1 => by
    obtain ⟨h1, h2⟩ := cnt_add hj m
    refine ⟨fun h => ?_, fun h => ?_⟩
    · by_cases hm : m = j
      · subst hm
        simp only [cnt, h2 (Nat.le_refl _)]
        simp [add, hj]
        omega
      · have := h1 (by omega)
        simp only [cnt]
        have e : add D j m = D m := by simp [add, hm]
        rw [e]; omega
    · simp only [cnt, h2 (by omega)]
      have e : add D j m = D m := by simp [add]; omega
      rw [e]

theorem cnt_zero {D : Nat → Bool} : ∀ m, cnt D m = 0 → ∀ j, j < m → D j = true
  | 0, _, j, h => by omega
  | m + 1, h, j, hj => by
    simp only [cnt] at h
    by_cases hm : D m = true
    · by_cases hjm : j = m
      · rw [hjm]; exact hm
      · exact cnt_zero m (by omega) j (by omega)
    · rw [if_neg hm] at h; omega

theorem steady_spec {il : List IOp} {st : List (T × H)} (hl : st.length = il.length + 1) {l k : Nat} (h : steady il st l k = true) {ol ok : IOp} (hol : il[l]? = some ol) (hok : il[k]? = some ok) {agg : Bool} {n : Nat} {x : Opd} (hop : ol.op = .ld agg n x)
    (hw : wants (st.getD l default).1 ol.guard = some true) {id off : Nat} (ha : opd (st.getD l default).1 x = .p (some (id, off))) :
    (st.getD k default).2.nx ≤ id ∨ ∃ c, (st.getD k default).2.load id off (if agg then n else 1) = some c ∧ (st.getD (k + 1) default).2.load id off (if agg then n else 1) = some c := by
  have hlt : l < st.length := by have := (List.getElem?_eq_some_iff.1 hol).1; omega
  have hkt : k + 1 < st.length := by have := (List.getElem?_eq_some_iff.1 hok).1; omega
  obtain ⟨d, op, g⟩ := ol
  simp only at hop hw
  subst hop
  unfold steady at h
  rw [hol, List.getElem?_eq_getElem hlt, List.getElem?_eq_getElem (by omega : k < st.length), List.getElem?_eq_getElem hkt] at h
  have e1 : st.getD l default = st[l] := by simp [List.getD_eq_getElem?_getD, List.getElem?_eq_getElem hlt]
  have e2 : st.getD k default = st[k] := by simp [List.getD_eq_getElem?_getD, List.getElem?_eq_getElem (by omega : k < st.length)]
  have e3 : st.getD (k + 1) default = st[k + 1] := by simp [List.getD_eq_getElem?_getD, List.getElem?_eq_getElem hkt]
  rw [e1] at hw ha
  rw [e2, e3]
  simp only [hw, ha] at h
  split at h
  · rename_i hge; exact .inl hge
  · split at h
    · rename_i c1 c2 h1 h2
      have := sames_eq _ _ h
      subst this
      exact .inr ⟨c1, h1, h2⟩
    · cases h

theorem rep_false (n i : Nat) : (Array.replicate n false).getD i false = false := by
  simp only [Array.getD_eq_getD_getElem?, Array.getElem?_replicate]
  split <;> rfl

theorem draw_sound (hC : CallOK P gs C) (hN : NxMono C) (hm : P.follows .mixedOrders = true) {id : Nat} {ops : Array Oper} {il : List IOp} (htr : trOpers P gs ops ops.toList = some il) {pairs : List (Nat × Nat)} (hok : drawOK ops il pairs = true)
    {e : En} {w : World} {ts ts' : T} {h h' : H} {a : Act} (hg : Glob e gs) (hx : idraw C il pairs ts h = some (ts', h')) (hr : RL e ts a.tmps.toList) (s : Sim e h w) (hf : Fresh e h.nx h'.nx) {Q : Exit → Act → World → Prop} (hQ : Then e h w a.defers .normal Q ts' h') :
    (Code.region id ops true).wp P Q a w := by
  have hx2 : iops C il ts h = some (ts', h') ∧ (pairs = [] ∨ ∃ st, trace C il ts h = some st ∧ (pairs.all fun p => steady il st p.1 p.2) = true) := by
    unfold idraw at hx
    split at hx
    · exact ⟨hx, .inl rfl⟩
    · split at hx
      · rename_i st hst
        split at hx
        · rename_i hall; exact ⟨hx, .inr ⟨st, hst, hall⟩⟩
        · cases hx
      · cases hx
  obtain ⟨hio, hpairs⟩ := hx2
  obtain ⟨st, k1, k2, k3, k4, k5⟩ := trace_steps hio
  have hlen : il.length = ops.size := by rw [(trOpers_get htr).1]; simp
  have hsteady : ∀ (l k : Nat) (ol ok : IOp), (l, k) ∈ pairs → il[l]? = some ol → il[k]? = some ok → ∀ agg n x, ol.op = .ld agg n x → wants (st.getD l default).1 ol.guard = some true → ∀ id off, opd (st.getD l default).1 x = .p (some (id, off)) →
      (st.getD k default).2.nx ≤ id ∨ ∃ c, (st.getD k default).2.load id off (if agg then n else 1) = some c ∧ (st.getD (k + 1) default).2.load id off (if agg then n else 1) = some c := by
    intro l k ol ok hin hol hok' agg n x hop hw id off ha
    rcases hpairs with hp | ⟨st', hst', hall⟩
    · rw [hp] at hin; cases hin
    · rw [k1] at hst'; cases hst'
      rw [List.all_eq_true] at hall
      exact steady_spec k2 (hall (l, k) hin) hol hok' hop hw ha
  have hS0 : ((fun i => st.getD i default) 0) = (ts, h) := k3
  have hSn : ((fun i => st.getD i default) il.length) = (ts', h') := k4
  refine wp_region_any hm ?_
  obtain ⟨hdlt, _⟩ := drawOK_spec hok
  suffices ∀ (fuel : Nat) (listed : Array Bool) (a' : Act) (w' : World), listed.size = ops.size → Closed ops (fun i => listed.getD i false) → cnt (fun i => listed.getD i false) ops.size ≤ fuel →
      Inv il (fun i => st.getD i default) e w a.defers (fun i => listed.getD i false) a' w' → wpAny P .any ops Q fuel listed a' w' by
    refine this ops.size _ a _ (by simp) ?_ ?_ ?_
    · intro i o _ hd
      simp only [rep_false] at hd; cases hd
    · have : ∀ (D : Nat → Bool) m, cnt D m ≤ m := by
        intro D m
        induction m with
        | zero => exact Nat.le_refl _
        | succ m ih => simp only [cnt]; split <;> omega
      exact this _ _
    · have hv : ∀ m t, val il (fun i => st.getD i default) (fun i => (Array.replicate ops.size false).getD i false) m t = ts.getD t undefV := by
        intro m t
        induction m with
        | zero => simp only [val]; rw [k3]
        | succ m ih =>
          unfold val
          rw [if_neg]
          · exact ih
          · rintro ⟨h1, _⟩; rw [rep_false] at h1; cases h1
      have hle : h.nx ≤ h'.nx := iops_nx hN hio
      have rf : ∀ i, (Array.replicate ops.size false).getD i false = false := fun i => rep_false _ _
      refine ⟨0, e, ⟨h'.nx, h.tr⟩, Nat.zero_le _, ?_, ?_, ?_, ?_, ?_, ⟨?_, ?_, ?_, ?_, ?_, ?_⟩, rfl⟩
      · intro i o _ _
        simp only [rf]
        constructor
        · intro hx; cases hx
        · intro hx; omega
      · simp only [k3]; have := hr.length; simpa using this.symm
      · intro t _
        rw [hv]
        have := hr.getD t
        simpa [List.getD_eq_getElem?_getD, Array.getD_eq_getD_getElem?] using this
      · exact s.drew.less (fun id o pl h1 _ => h1) (fun id hid => s.low id (Nat.le_trans hle hid))
      · simp only [k3]
        have q := St.drew (e := e) (h := h) (w := w)
        exact ⟨q.le, fun id h1 h2 => (h2 h1).elim, hle, fun b hb => .inl hb, q.keep, q.size, q.os, q.tape, q.output, fun b hb => .inl hb, fun id _ _ => rfl⟩
      · simp only [k4]
      · intro id _; simp only [k3]; rfl
      · intro i o _ _ hD
        simp only [rf] at hD; cases hD
      · intro i o _ ho _ id h1 _
        have hS0 := steps_nx hN k5 i 0 (by have := (List.getElem?_eq_some_iff.1 ho).1; omega)
        rw [Nat.zero_add] at hS0
        simp only [k3] at hS0 h1
        exact s.low id (Nat.le_trans hS0 h1)
      · intro i hi _ id h1 h2
        have hS0 := steps_nx hN k5 i 0 (by omega)
        have hSn := steps_nx hN k5 (il.length - (i + 1)) (i + 1) (by omega)
        rw [Nat.zero_add] at hS0
        rw [show i + 1 + (il.length - (i + 1)) = il.length by omega] at hSn
        simp only [k3, k4] at hS0 hSn h1 h2
        exact hf id (Nat.le_trans hS0 h1) (by omega)
      · intro i o hi
        omega
  have fin : ∀ (listed : Array Bool) (a' : Act) (w' : World), listed.size = ops.size → Inv il (fun i => st.getD i default) e w a.defers (fun i => listed.getD i false) a' w' → Region.ready .any ops listed = [] → Q .normal a' w' := by
    intro listed a' w' hsz hinv hready
    have all : ∀ j, j < ops.size → listed.getD j false = true := by
      intro j
      induction j using Nat.strongRecOn with
      | _ j ih =>
        intro hj
        cases hd : listed.getD j false with
        | true => rfl
        | false =>
          have ho : ops[j]? = some ops[j] := Array.getElem?_eq_getElem hj
          have : j ∈ Region.ready .any ops listed := mem_ready.2 ⟨by
            have hlt : j < listed.size := by omega
            simp only [Array.getD_eq_getD_getElem?, Array.getElem?_eq_getElem hlt, Option.getD_some] at hd ⊢
            exact hd, _, ho, fun ed hed hb => by
              have hdm : ed.on ∈ dirs ops[j] := by
                unfold dirs
                rw [List.mem_map]
                exact ⟨ed, by rw [List.mem_filter]; exact ⟨by simpa using hed, hb⟩, rfl⟩
              have hlt := hdlt j _ ho _ hdm
              exact ih _ hlt (by omega)⟩
          rw [hready] at this; cases this
    obtain ⟨t0, e', G, htn, heff, h1, h2, hsim, hst, hG, h5⟩ := hinv
    have hc : ∀ i o, t0 ≤ i → i < il.length → il[i]? = some o → isEff o = false := by
      intro i o g1 g2 g3
      cases he : isEff o with
      | false => rfl
      | true => have := (heff i o g3 he).1 (all i (by omega)); omega
    have hwfn := steps_wf hN k5 (by simp only [k3]; exact s.low) il.length (Nat.le_refl _)
    have hsub : ∀ (id : Nat) (o : O) (pl : Pl), h'.get id = some o → e' id = some pl → G.get id = some o := by
      intro id o pl g1 g2
      refine hG.sub k5 hN htn (Nat.le_refl _) (fun i o g1 g2 g3 => hc i o g1 g2 g3) (o := o) ?_ g2 hwfn
      simp only [k4]; exact g1
    simp only [k4] at hwfn
    have h3 : Sim e' h' w' := hsim.less hsub hwfn
    have hGn := hG.nx
    simp only [k4] at hGn
    have h4 : St e h w e' h' w' := by
      simp only [k3] at hst
      refine ⟨hst.le, fun id g1 g2 => ?_, ?_, ?_, hst.keep, hst.size, hst.os, hst.tape, hst.output, ?_, ?_⟩
      · have := hst.dom id g1 g2
        rw [hGn] at this; exact this
      · rw [← hGn]; exact hst.nx
      · rintro b ⟨id, o, pl, g1, g2, g3, g4⟩
        exact hst.img b ⟨id, o, pl, hsub id o pl g1 g3, g2, g3, g4⟩
      · rintro b ⟨id, o, pl, g1, g3, g4⟩
        exact hst.any b ⟨id, o, pl, hsub id o pl g1 g3, g3, g4⟩
      · intro id g1 g2
        have n0 := steps_nx hN k5 t0 0 (by omega)
        rw [Nat.zero_add] at n0
        simp only [k3] at n0
        have c := calm_rows k5 hN (il.length - t0) t0 (by omega) (fun i o g1 g2 g3 => hc i o g1 (by omega) g3) id (by omega)
        rw [show t0 + (il.length - t0) = il.length by omega] at c
        simp only [k4] at c
        rw [c, ← hG.g1 id (by omega)]
        exact hst.out id g1 g2
    have hlen' := frame_length k5 il.length (Nat.le_refl _)
    simp only [k3, k4] at hlen'
    simp only [k3] at h1 h2
    refine hQ e' a' w' ?_ h3 h4 h5
    refine RL.of (by simp [h1, hlen']) fun t x hx => ?_
    have hlt : t < ts.length := by rw [← hlen']; exact (List.getElem?_eq_some_iff.1 hx).1
    have hv := val_at k5 (D := fun i => listed.getD i false) (j := il.length) (t := t) (fun i o g1 g2 g3 => all i (by omega)) (fun i o g1 g2 g3 => by
      have := (List.getElem?_eq_some_iff.1 g2).1; omega) il.length (Nat.le_refl _)
    rw [Nat.min_self] at hv
    simp only [k4] at hv
    have h2' := h2 t hlt
    rw [hv] at h2'
    simp only [List.getD_eq_getElem?_getD, hx, Option.getD_some] at h2'
    have hlt2 : t < a'.tmps.size := by omega
    refine ⟨a'.tmps[t], by simp [hlt2], ?_⟩
    simpa [hlt2] using h2'
  intro fuel
  induction fuel with
  | zero =>
    intro listed a' w' hsz hcl hcnt hinv
    have all := cnt_zero ops.size (Nat.le_zero.1 hcnt)
    have hready : Region.ready .any ops listed = [] := by
      refine List.eq_nil_iff_forall_not_mem.2 fun j hj => ?_
      obtain ⟨g1, o, g2, _⟩ := mem_ready.1 hj
      have hj' : j < ops.size := (Array.getElem?_eq_some_iff.1 g2).1
      have := all j hj'
      have hlt : j < listed.size := by omega
      simp only [Array.getD_eq_getD_getElem?, Array.getElem?_eq_getElem hlt, Option.getD_some] at g1 this
      rw [g1] at this; cases this
    exact ⟨hready, fin listed a' w' hsz hinv hready⟩
  | succ fuel ih =>
    intro listed a' w' hsz hcl hcnt hinv
    refine ⟨fun hready => fin listed a' w' hsz hinv hready, fun j hj => ?_⟩
    obtain ⟨g1, o, g2, g3⟩ := mem_ready.1 hj
    have hj' : j < ops.size := (Array.getElem?_eq_some_iff.1 g2).1
    have hlt : j < listed.size := by omega
    have hnj : listed.getD j false = false := by
      simp only [Array.getD_eq_getD_getElem?, Array.getElem?_eq_getElem hlt, Option.getD_some] at g1 ⊢
      exact g1
    have hdj : ∀ d ∈ dirs o, listed.getD d false = true := by
      intro d hd
      unfold dirs at hd
      rw [List.mem_map] at hd
      obtain ⟨ed, hed, rfl⟩ := hd
      rw [List.mem_filter] at hed
      exact g3 ed (by simpa using hed.1) hed.2
    have hadd : (fun i => (listed.setIfInBounds j true).getD i false) = add (fun i => listed.getD i false) j := by
      funext i
      unfold add
      by_cases hij : i = j
      · subst hij; simp [hlt]
      · rw [if_neg hij]; exact getD_set_ne false (Ne.symm hij)
    refine draw_step (S := fun i => st.getD i default) hC hN htr k5 hsteady (by simp only [k3]; exact s.low) hok hg hcl g2 hnj hdj (fun i hi => ?_) hinv fun a2 w2 hinv2 => ?_
    · simp only [Array.getD_eq_getD_getElem?]
      rw [Array.getElem?_eq_none (by omega)]; rfl
    · refine ih _ a2 w2 (by simp [hsz]) ?_ ?_ ?_
      · rw [hadd]
        intro i oi hi hDi d hd
        unfold add at hDi ⊢
        by_cases hdj' : d = j
        · rw [if_pos hdj']
        · rw [if_neg hdj']
          by_cases hij : i = j
          · subst hij
            rw [g2] at hi; cases hi
            exact hdj d hd
          · rw [if_neg hij] at hDi
            exact hcl i oi hi hDi d hd
      · rw [hadd]
        have := (cnt_add (D := fun i => listed.getD i false) hnj ops.size).1 hj'
        omega
      · rw [hadd]; exact hinv2

def toExit : X → Exit
  | .normal => .normal
  | .exit id => .exit id
  | .ret => .ret

theorem runC_nx (hN : NxMono C) {k : Nat} : ∀ (c : IC) {ts ts' : T} {h h' : H} {x : X}, runC C k c ts h = some (x, ts', h') → h.nx ≤ h'.nx ∧ (HWf h → HWf h')
  | .skip, ts, ts', h, h', x, hx => by simp only [runC] at hx; cases hx; exact ⟨Nat.le_refl _, id⟩
  | .exit _, ts, ts', h, h', x, hx => by simp only [runC] at hx; cases hx; exact ⟨Nat.le_refl _, id⟩
  | .ret, ts, ts', h, h', x, hx => by simp only [runC] at hx; cases hx; exact ⟨Nat.le_refl _, id⟩
  | .region ops, ts, ts', h, h', x, hx => by
    simp only [runC] at hx
    split at hx
    · rename_i hio; cases hx; exact ⟨iops_nx hN hio, iops_wf hN hio⟩
    · cases hx
  | .draw ops pairs, ts, ts', h, h', x, hx => by
    simp only [runC] at hx
    split at hx
    · rename_i hio
      cases hx
      have : iops C ops ts h = some (ts', h') := by
        unfold idraw at hio
        split at hio
        · exact hio
        · split at hio
          · split at hio
            · exact hio
            · cases hio
          · cases hio
      exact ⟨iops_nx hN this, iops_wf hN this⟩
    · cases hx
  | .seq a b, ts, ts', h, h', x, hx => by
    simp only [runC] at hx
    split at hx
    · rename_i t1 h1 ha
      have k1 := runC_nx hN a ha
      have k2 := runC_nx hN b hx
      exact ⟨Nat.le_trans k1.1 k2.1, fun q => k2.2 (k1.2 q)⟩
    · exact runC_nx hN a hx
  | .cond c a b, ts, ts', h, h', x, hx => by
    simp only [runC] at hx
    split at hx
    · exact runC_nx hN a hx
    · exact runC_nx hN b hx
    · cases hx
  | .block id c, ts, ts', h, h', x, hx => by
    simp only [runC] at hx
    split at hx
    · rename_i id' t1 h1 hc
      have := runC_nx hN c hc
      split at hx <;> (cases hx; exact this)
    · exact runC_nx hN c hx
  | .loop c, ts, ts', h, h', x, hx => by
    simp only [runC] at hx
    suffices ∀ (m : Nat) (ts : T) (h : H), loopN (runC C k c) m ts h = some (x, ts', h') → h.nx ≤ h'.nx ∧ (HWf h → HWf h') from this k ts h hx
    intro m
    induction m with
    | zero => intro ts h hl; simp only [loopN] at hl; cases hl
    | succ m ih =>
      intro ts h hl
      simp only [loopN] at hl
      split at hl
      · rename_i t1 h1 hc
        have k1 := runC_nx hN c hc
        have k2 := ih t1 h1 hl
        exact ⟨Nat.le_trans k1.1 k2.1, fun q => k2.2 (k1.2 q)⟩
      · exact runC_nx hN c hl

theorem code_sound (hC : CallOK P gs C) (hN : NxMono C) (hm : P.follows .mixedOrders = true) {k : Nat} : ∀ (c : Code) (ic : IC), trC P gs c = some ic →
    ∀ (e : En) (w : World) (ts ts' : T) (h h' : H) (x : X) (a : Act) (Q : Exit → Act → World → Prop), Glob e gs → runC C k ic ts h = some (x, ts', h') → RL e ts a.tmps.toList → Sim e h w → Fresh e h.nx h'.nx → Then e h w a.defers (toExit x) Q ts' h' → c.wp P Q a w
  | .skip, ic, ht, e, w, ts, ts', h, h', x, a, Q, hg, hx, hr, s, hf, hQ => by
    simp only [trC] at ht; cases ht
    simp only [runC] at hx; cases hx
    exact wp_skip (hQ e a w hr s (St.refl _ _ _) rfl)
  | .exit id, ic, ht, e, w, ts, ts', h, h', x, a, Q, hg, hx, hr, s, hf, hQ => by
    simp only [trC] at ht; cases ht
    simp only [runC] at hx; cases hx
    exact wp_exit (hQ e a w hr s (St.refl _ _ _) rfl)
  | .ret, ic, ht, e, w, ts, ts', h, h', x, a, Q, hg, hx, hr, s, hf, hQ => by
    simp only [trC] at ht; cases ht
    simp only [runC] at hx; cases hx
    exact wp_ret (hQ e a w hr s (St.refl _ _ _) rfl)
  | .region id ops draw, ic, ht, e, w, ts, ts', h, h', x, a, Q, hg, hx, hr, s, hf, hQ => by
    simp only [trC] at ht
    split at ht
    · rename_i il hil
      cases draw with
      | true =>
        simp only [if_true] at ht
        split at ht
        · rename_i hok
          cases ht
          simp only [runC] at hx
          split at hx
          · rename_i t1 h1 hio
            cases hx
            exact draw_sound hC hN hm hil hok hg hio hr s hf hQ
          · cases hx
        · cases ht
      | false =>
        simp only [Bool.false_eq_true, if_false] at ht
        cases ht
        simp only [runC] at hx
        split at hx
        · rename_i t1 h1 hio
          cases hx
          exact wp_region_list (iops_sound hC hN ops.toList il hil e w ts ts' h h' a hg hio hr s hf hQ)
        · cases hx
    · cases ht
  | .seq c d, ic, ht, e, w, ts, ts', h, h', x, a, Q, hg, hx, hr, s, hf, hQ => by
    simp only [trC] at ht
    split at ht
    · rename_i ic1 ic2 h1 h2
      cases ht
      simp only [runC] at hx
      refine wp_seq ?_
      split at hx
      · rename_i t1 hh1 hc
        have n1 := runC_nx hN ic1 hc
        have n2 := runC_nx hN ic2 hx
        refine code_sound hC hN hm c ic1 h1 e w ts t1 h hh1 .normal a _ hg hc hr s (hf.sub (Nat.le_refl _) n2.1) ?_
        intro e1 a1 w1 r1 s1 st1 d1
        refine code_sound hC hN hm d ic2 h2 e1 w1 t1 ts' hh1 h' x a1 Q (hg.mono st1.le) hx r1 s1 (hf.next st1) ?_
        intro e2 a2 w2 r2 s2 st2 d2
        exact hQ e2 a2 w2 r2 s2 (st1.trans st2) (d2.trans d1)
      · rename_i hne
        refine code_sound hC hN hm c ic1 h1 e w ts ts' h h' x a _ hg hx hr s hf ?_
        intro e1 a1 w1 r1 s1 st1 d1
        have := hQ e1 a1 w1 r1 s1 st1 d1
        cases x with
        | normal => exact (hne _ _ hx).elim
        | exit id => exact this
        | ret => exact this
    · cases ht
  | .cond c d f, ic, ht, e, w, ts, ts', h, h', x, a, Q, hg, hx, hr, s, hf, hQ => by
    simp only [trC] at ht
    split at ht
    · rename_i co ic1 ic2 h0 h1 h2
      cases ht
      simp only [runC] at hx
      have rc := trO_R hg hr h0
      split at hx
      · rename_i hv
        rw [hv] at rc; simp only [R] at rc
        exact wp_cond_true rc (code_sound hC hN hm d ic1 h1 e w ts ts' h h' x a Q hg hx hr s hf hQ)
      · rename_i hv
        rw [hv] at rc; simp only [R] at rc
        exact wp_cond_false rc (code_sound hC hN hm f ic2 h2 e w ts ts' h h' x a Q hg hx hr s hf hQ)
      · cases hx
    · cases ht
  | .block id c, ic, ht, e, w, ts, ts', h, h', x, a, Q, hg, hx, hr, s, hf, hQ => by
    simp only [trC] at ht
    split at ht
    · rename_i ic1 h1
      cases ht
      simp only [runC] at hx
      refine wp_block ?_
      split at hx
      · rename_i id' t1 hh1 hc
        have hh : h1 = h1 := rfl
        split at hx
        · rename_i hid
          cases hx
          refine code_sound hC hN hm c ic1 h1 e w ts ts' h h' (.exit id') a _ hg hc hr s hf ?_
          intro e1 a1 w1 r1 s1 st1 d1
          simp only [toExit, Exit.inBlock, hid, if_true]
          exact hQ e1 a1 w1 r1 s1 st1 d1
        · rename_i hid
          cases hx
          refine code_sound hC hN hm c ic1 h1 e w ts ts' h h' (.exit id') a _ hg hc hr s hf ?_
          intro e1 a1 w1 r1 s1 st1 d1
          simp only [toExit, Exit.inBlock, hid, if_false]
          exact hQ e1 a1 w1 r1 s1 st1 d1
      · rename_i hne
        refine code_sound hC hN hm c ic1 h1 e w ts ts' h h' x a _ hg hx hr s hf ?_
        intro e1 a1 w1 r1 s1 st1 d1
        have := hQ e1 a1 w1 r1 s1 st1 d1
        cases x with
        | normal => exact this
        | exit id' => exact (hne _ _ _ hx).elim
        | ret => exact this
    · cases ht
  | .loop c, ic, ht, e, w, ts, ts', h, h', x, a, Q, hg, hx, hr, s, hf, hQ => by
    simp only [trC] at ht
    split at ht
    · rename_i ic1 h1
      cases ht
      simp only [runC] at hx
      refine wp_loop_ghost (fun m a1 w1 => ∃ e1 ts1 hh1, loopN (runC C k ic1) m ts1 hh1 = some (x, ts', h') ∧ RL e1 ts1 a1.tmps.toList ∧ Sim e1 hh1 w1 ∧ St e h w e1 hh1 w1 ∧ a1.defers = a.defers) k ⟨e, ts, h, hx, hr, s, St.refl _ _ _, rfl⟩ ?_
      rintro m a1 w1 ⟨e1, ts1, hh1, hl, r1, s1, st1, d1⟩
      cases m with
      | zero => simp only [loopN] at hl; cases hl
      | succ m =>
        simp only [loopN] at hl
        split at hl
        · rename_i t2 hh2 hc
          have n2 : hh2.nx ≤ h'.nx := by
            suffices ∀ (m : Nat) (ts : T) (h : H), loopN (runC C k ic1) m ts h = some (x, ts', h') → h.nx ≤ h'.nx from this m t2 hh2 hl
            intro m
            induction m with
            | zero => intro ts h hl; simp only [loopN] at hl; cases hl
            | succ m ih =>
              intro ts h hl
              simp only [loopN] at hl
              split at hl
              · rename_i hc2; exact Nat.le_trans (runC_nx hN ic1 hc2).1 (ih _ _ hl)
              · exact (runC_nx hN ic1 hl).1
          refine code_sound hC hN hm c ic1 h1 e1 w1 ts1 t2 hh1 hh2 .normal a1 _ (hg.mono st1.le) hc r1 s1 ((hf.next st1).sub (Nat.le_refl _) n2) ?_
          intro e2 a2 w2 r2 s2 st2 d2
          exact ⟨m, Nat.lt_succ_self m, e2, t2, hh2, hl, r2, s2, st1.trans st2, d2.trans d1⟩
        · rename_i hne
          refine code_sound hC hN hm c ic1 h1 e1 w1 ts1 ts' hh1 h' x a1 _ (hg.mono st1.le) hl r1 s1 (hf.next st1) ?_
          intro e2 a2 w2 r2 s2 st2 d2
          have := hQ e2 a2 w2 r2 s2 (st1.trans st2) (d2.trans d1)
          cases x with
          | normal => exact (hne _ _ hl).elim
          | exit id' => exact this
          | ret => exact this
    · cases ht
  | .rangeFunc _ _ _ _, ic, ht, e, w, ts, ts', h, h', x, a, Q, hg, hx, hr, s, hf, hQ => by simp only [trC] at ht; cases ht
  | .scope _, ic, ht, e, w, ts, ts', h, h', x, a, Q, hg, hx, hr, s, hf, hQ => by simp only [trC] at ht; cases ht
  | .label _, ic, ht, e, w, ts, ts', h, h', x, a, Q, hg, hx, hr, s, hf, hQ => by simp only [trC] at ht; cases ht
  | .goto _, ic, ht, e, w, ts, ts', h, h', x, a, Q, hg, hx, hr, s, hf, hQ => by simp only [trC] at ht; cases ht
  | .refuse _, ic, ht, e, w, ts, ts', h, h', x, a, Q, hg, hx, hr, s, hf, hQ => by simp only [trC] at ht; cases ht

/-! ### results -/
theorem resV_sound {e : En} {w : World} {ts : T} {tmps : Array Value} {h : H} (hr : RL e ts tmps.toList) (s : Sim e h w) {x : ResultVar} {y : RV} (hy : trRV P x = some y) {v : V} (hv : resV ts h y = some v) :
    ∃ v', (match x with
      | .tmp t => pure (tmps.getD t undef)
      | .cell a t => do loadVar t (← asAddr (tmps.getD a undef)) : Sem Value).run P w = .ok v' w ∧ R e v v' := by
  have rd : ∀ t, R e (ts.getD t undefV) (tmps.getD t undef) := by
    intro t
    have := hr.getD t
    simpa [List.getD_eq_getElem?_getD, Array.getD_eq_getD_getElem?] using this
  cases x with
  | tmp t =>
    simp only [trRV] at hy; cases hy
    simp only [resV] at hv; cases hv
    exact ⟨_, rfl, rd t⟩
  | cell b t =>
    simp only [trRV] at hy
    split at hy
    · rename_i d n hd hn
      cases hy
      simp only [resV, load1, opd] at hv
      have r1 := rd b
      split at hv
      · rename_i id off hb
        rw [hb] at r1; simp only [R] at r1
        obtain ⟨pl, hpl, r1⟩ := r1
        cases hA : isAggD d with
        | true =>
          simp only [hA, if_true] at hv
          split at hv
          · rename_i l hl
            cases hv
            obtain ⟨vs, k1, k2, k3⟩ := load_cells s hl hpl
            have := run_loadCells_list (P := P) (w := w) ⟨pl.blk, off + pl.sh, none⟩ vs k3
            rw [k2] at this
            refine ⟨.agg vs.toArray, ?_, by simp only [R]; exact ⟨_, rfl, by simpa using k1⟩⟩
            simp [r1, asAddr, loadVar, run_isAgg hd, hA, run_szOf hn, this]
          · cases hv
        | false =>
          simp only [hA, Bool.false_eq_true, if_false] at hv
          split at hv
          · rename_i u hl
            cases hv
            obtain ⟨vs, k1, k2, k3⟩ := load_cells s hl hpl
            obtain ⟨u', r, rfl, ru, _⟩ := RL_cons_inv k1
            have hc := k3 0 u' rfl
            rw [addr_add] at hc
            refine ⟨u', ?_, ru⟩
            simp only [Nat.add_zero] at hc
            simp [r1, asAddr, loadVar, run_isAgg hd, hA, run_load, hc]
          · cases hv
      · cases hv
    · cases hy

theorem resL_sound {e : En} {w : World} {ts : T} {tmps : Array Value} {h : H} (hr : RL e ts tmps.toList) (s : Sim e h w) : ∀ {l : List ResultVar} {m : List RV} {vs : List V}, trRVs P l = some m → resL ts h m = some vs →
    ∃ us, (l.mapM fun x => (match x with
      | .tmp t => pure (tmps.getD t undef)
      | .cell a t => do loadVar t (← asAddr (tmps.getD a undef)) : Sem Value)).run P w = .ok us w ∧ RL e vs us
  | [], m, vs, hm, hv => by
    simp only [trRVs] at hm; cases hm
    simp only [resL] at hv; cases hv
    exact ⟨[], rfl, RL_nil⟩
  | x :: l, m, vs, hm, hv => by
    simp only [trRVs] at hm
    split at hm
    · rename_i y r h1 h2
      cases hm
      simp only [resL] at hv
      split at hv
      · rename_i v rs h3 h4
        cases hv
        obtain ⟨v', k1, k2⟩ := resV_sound hr s h1 h3
        obtain ⟨us, k3, k4⟩ := resL_sound hr s h2 h4
        refine ⟨v' :: us, ?_, RL_cons k2 k4⟩
        simp only [List.mapM_cons, Sem.run_bind, k1, Result.andThen_ok, k3, Sem.run_pure]
      · cases hv
    · cases hm

theorem results_sound {e : En} {w : World} {ts : T} {tmps : Array Value} {h : H} (hr : RL e ts tmps.toList) (s : Sim e h w) {fn : Func} {m : List RV} {v : V} (hm : trRVs P fn.results.toList = some m) (hv : resOf ts h m = some v) :
    ∃ v', (results fn tmps).run P w = .ok v' w ∧ R e v v' := by
  have hmap : ∀ us, (fn.results.toList.mapM fun x => (match x with
      | .tmp t => pure (tmps.getD t undef)
      | .cell a t => do loadVar t (← asAddr (tmps.getD a undef)) : Sem Value)).run P w = .ok us w →
      (results fn tmps).run P w = .ok (if h : us.toArray.size = 1 then us.toArray[0] else .tuple us.toArray) w := by
    intro us hus
    unfold results
    rw [← Array.toArray_toList (xs := fn.results), List.mapM_toArray]
    simp only [Sem.run_bind, Sem.run_map]
    erw [hus]
    rfl
  unfold resOf at hv
  split at hv
  · rename_i u hl
    cases hv
    obtain ⟨us, k1, k2⟩ := resL_sound hr s hm hl
    obtain ⟨u', r, rfl, ru, rn⟩ := RL_cons_inv k2
    rw [RL_nil_inv rn] at k1
    exact ⟨u', hmap _ k1, ru⟩
  · rename_i vs hne hl
    cases hv
    obtain ⟨us, k1, k2⟩ := resL_sound hr s hm hl
    refine ⟨.tuple us.toArray, ?_, by simp only [R]; exact ⟨_, rfl, by simpa using k2⟩⟩
    have hlen := k2.length
    have hn1 : ¬ (us.toArray.size = 1) := by
      intro h1
      simp only [List.size_toArray] at h1
      match vs, hlen.trans h1 with
      | [x], _ => exact hne x rfl
    rw [hmap _ k1, dif_neg hn1]
  · cases hv

/-- the functions of a program, each with its translation -/
def ProgOK (P : Program) (gs : Nat) (IP : Nat → Option IFn) : Prop :=
  P.follows .mixedOrders = true ∧ ∀ f ir, IP f = some ir → ∃ fn, P.funcs[f]? = some fn ∧ trFn P gs fn = some ir

theorem ev_nx {IP : Nat → Option IFn} : ∀ k, NxMono (ev IP k)
  | 0 => fun f args h v h' hx => by simp only [ev] at hx; cases hx
  | k + 1 => fun f args h v h' hx => by
    simp only [ev] at hx
    split at hx
    · rename_i fn hfn
      split at hx
      · rename_i ts h1 hrun
        have := runC_nx (ev_nx k) _ hrun
        split at hx
        · cases hx; exact this
        · cases hx
      · rename_i ts h1 hrun
        have := runC_nx (ev_nx k) _ hrun
        split at hx
        · cases hx; exact this
        · cases hx
      · cases hx
    · cases hx

/-- a body without deferred calls: what it comes to -/
theorem plain_wp {C : Nat → List V → H → Option (V × H)} (hC : CallOK P gs C) (hN : NxMono C) (hm : P.follows .mixedOrders = true) {k : Nat} {fn : Func} {c : Code} {b : IC} {r : List RV} (hb : trC P gs c = some b) (hr : trRVs P fn.results.toList = some r)
    {args : List V} {h h' : H} {v : V}
    (hx : (match runC C k b (args ++ List.replicate (fn.ntmps - args.length) undefV) h with
      | some (.normal, ts, h') => match resOf ts h' r with
        | some v => some (v, h')
        | none => none
      | some (.ret, ts, h') => match resOf ts h' r with
        | some v => some (v, h')
        | none => none
      | _ => none) = some (v, h'))
    {e : En} {w : World} {args' : Array Value} (hra : RL e args args'.toList) (s : Sim e h w) (hg : Glob e gs) (hf : Fresh e h.nx h'.nx) :
    c.wp P (bodyPost P fn (Post e h w v h')) { tmps := args' ++ Array.replicate (fn.ntmps - args'.size) undef, defers := [] } w := by
  have hra0 : RL e (args ++ List.replicate (fn.ntmps - args.length) undefV) (args' ++ Array.replicate (fn.ntmps - args'.size) undef).toList := by
    have hl := hra.length
    simp only [Array.length_toList] at hl
    rw [Array.toList_append, Array.toList_replicate, hl]
    exact hra.append (RL.replicate (R_undef e) _)
  split at hx
  · rename_i ts h1 hrun
    split at hx
    · rename_i u hu
      cases hx
      refine code_sound hC hN hm c b hb e w _ ts h h' .normal _ _ hg hrun hra0 s hf ?_
      intro e1 a1 w1 r1 s1 st1 d1
      obtain ⟨v', k1, k2⟩ := results_sound r1 s1 hr hu
      exact ⟨d1, v', k1, v', rfl, e1, k2, s1, st1⟩
    · cases hx
  · rename_i ts h1 hrun
    split at hx
    · rename_i u hu
      cases hx
      refine code_sound hC hN hm c b hb e w _ ts h h' .ret _ _ hg hrun hra0 s hf ?_
      intro e1 a1 w1 r1 s1 st1 d1
      obtain ⟨v', k1, k2⟩ := results_sound r1 s1 hr hu
      exact ⟨d1, v', k1, v', rfl, e1, k2, s1, st1⟩
    · cases hx
  · cases hx

theorem iops_then {C : Nat → List V → H → Option (V × H)} (hC : CallOK P gs C) (hN : NxMono C) {ops : Array Oper} {Q : Exit → Act → World → Prop} {l2 : List Oper} : ∀ (l : List Oper) (il : List IOp), trOpers P gs ops l = some il →
    ∀ (e : En) (w : World) (ts ts' : T) (h h' : H) (a : Act), Glob e gs → iops C il ts h = some (ts', h') → RL e ts a.tmps.toList → Sim e h w → Fresh e h.nx h'.nx → Then e h w a.defers .normal (fun _ a w => wpList P ops Q l2 a w) ts' h' → wpList P ops Q (l ++ l2) a w
  | [], il, ht, e, w, ts, ts', h, h', a, hg, hx, hr, s, hf, hQ => by
    simp only [trOpers] at ht; cases ht
    simp only [iops] at hx; cases hx
    exact hQ e a w hr s (St.refl _ _ _) rfl
  | o :: l, il, ht, e, w, ts, ts', h, h', a, hg, hx, hr, s, hf, hQ => by
    simp only [trOpers] at ht
    split at ht
    · rename_i io r h1 h2
      cases ht
      simp only [iops] at hx
      split at hx
      · rename_i t1 hh1 hio
        have hn1 := iop_nx hN hio
        have hn2 := iops_nx hN hx
        simp only [trOper] at h1
        split at h1
        · rename_i op g hop hgd
          cases h1
          obtain ⟨b, hw1, hw2⟩ := wants_sound hr (ops := ops) hgd
          simp only [iop, hw1] at hio
          rw [List.cons_append]
          unfold wpList
          rw [hw2]
          cases b with
          | true =>
            simp only [if_true]
            simp only at hio
            split at hio
            · rename_i v hh hv
              cases hio
              refine .inl (op_sound hg hr hop hC hv s (hf.sub (Nat.le_refl _) hn2) fun v' w' ⟨e', q1, q2, q3⟩ => ?_)
              refine iops_then hC hN l r h2 e' w' _ ts' _ h' _ (hg.mono q3.le) hx (RL_put (RL.mono q3.le _ _ hr) o.dst q1) q2 (hf.next q3) ?_
              intro e2 a2 w2 k1 k2 k3 k4
              exact hQ e2 a2 w2 k1 k2 (q3.trans k3) (k4.trans (put_defers _ _ _))
            · cases hio
          | false =>
            simp only [Bool.false_eq_true, if_false]
            simp only at hio
            cases hio
            refine iops_then hC hN l r h2 e w _ ts' _ h' _ hg hx (RL_put hr o.dst (R_undef e)) s hf ?_
            intro e2 a2 w2 k1 k2 k3 k4
            exact hQ e2 a2 w2 k1 k2 k3 (k4.trans (put_defers _ _ _))
        · cases h1
      · cases hx
    · cases ht

theorem def_sound {C : Nat → List V → H → Option (V × H)} (hC : CallOK P gs C) (hN : NxMono C) (hm : P.follows .mixedOrders = true)
    (hD : ∀ g fg cg, P.funcs[g]? = some fg → fg.body = some cg → (trC P gs cg).isSome = true → ∀ args h v h', C g args h = some (v, h') → ∀ (e : En) (w : World) (args' : Array Value), RL e args args'.toList → Sim e h w → Glob e gs → Fresh e h.nx h'.nx →
      CallsD P g args' .returning w fun en u' w' => u' = .returning ∧ Post e h w v h' en w')
    {k : Nat} {fn : Func} {r : List RV} (hr : trRVs P fn.results.toList = some r) : ∀ (c : Code) (ic : IC), trDef P gs c = some ic →
    ∀ (e : En) (w : World) (ts t2 : T) (h h2 : H) (x : X) (v : V) (a : Act) (Rr : Ending → World → Prop), Glob e gs → runC C k ic ts h = some (x, t2, h2) → resOf t2 h2 r = some v → RL e ts a.tmps.toList → Sim e h w → Fresh e h.nx h2.nx → a.defers = [] →
      (∀ en w', Post e h w v h2 en w' → Rr en w') → (x = .normal ∨ x = .ret) → c.wp P (bodyPostD P fn Rr) a w := by
  intro c
  induction c with
  | seq c1 rest _ ih =>
    intro ic ht e w ts t2 h h2 x v a Rr hg hx hres hra s hf hd hR hxx
    cases c1 with
    | region rid rops draw =>
      cases draw with
      | true => simp only [trDef] at ht; cases ht
      | false =>
        simp only [trDef] at ht
        split at ht
        · rename_i pre o hsp
          split at ht
          · rename_i dc hop hgd
            split at ht
            · rename_i g hcal
              split at ht
              · rename_i l b0 fg il hl hb0 hfg hil
                split at ht
                · rename_i cg hcg
                  split at ht
                  · rename_i hcond
                    cases ht
                    simp only [Bool.and_eq_true] at hcond
                    obtain ⟨⟨⟨hpl, hfree⟩, hk1⟩, hk2⟩ := hcond
                    simp only [runC] at hx
                    cases hio : iops C il ts h with
                    | none => rw [hio] at hx; simp at hx
                    | some q0 =>
                      obtain ⟨ts0, h0⟩ := q0
                      rw [hio] at hx
                      simp only at hx
                      -- what the machine did
                      obtain ⟨y, t3, h3, hrun, hx2, v2, hg2, rfl⟩ : ∃ y t3 h3, runC C k b0 (putT ts0 o.dst undefV) h0 = some (y, t3, h3) ∧ (y = .normal ∨ y = .ret) ∧ ∃ v2, C g (l.map (opd t3)) h3 = some (v2, h2) ∧ t3 = t2 := by
                        simp only [iops, iop, wants, op1, pure1, opd] at hx
                        rw [noRet_run b0 hfree] at hx
                        cases hrun : runC C k b0 (putT ts0 o.dst undefV) h0 with
                        | none => rw [hrun] at hx; simp [rNoRet] at hx
                        | some y =>
                          obtain ⟨y, t3, h3⟩ := y
                          rw [hrun] at hx
                          have hne := no_exit b0 hfree hrun
                          refine ⟨y, t3, h3, rfl, ?_⟩
                          have hcl : (y = .normal ∨ y = .ret) → ∃ v2, C g (l.map (opd t3)) h3 = some (v2, h2) ∧ t3 = t2 := by
                            intro hyy
                            have hx' : (match C g (l.map (opd t3)) h3 with
                                | some (_, h4) => some (X.normal, t3, h4)
                                | none => none) = some (x, t2, h2) := by
                              rcases hyy with rfl | rfl <;> (
                                simp only [rNoRet, X.noRet, if_true, eff1, putT] at hx
                                cases hc : C g (l.map (opd t3)) h3 with
                                | none => rw [hc] at hx; simp at hx
                                | some q => rw [hc] at hx; exact hx)
                            split at hx'
                            · rename_i v2 h4 hc
                              cases hx'
                              exact ⟨v2, hc, rfl⟩
                            · cases hx'
                          cases y with
                          | normal => exact ⟨.inl rfl, hcl (.inl rfl)⟩
                          | ret => exact ⟨.inr rfl, hcl (.inr rfl)⟩
                          | exit id =>
                            have hid : ¬ id = dB := fun e => hne (by rw [e])
                            simp [rNoRet, X.noRet, hid] at hx
                            rcases hxx with rfl | rfl
                            · cases hx.1
                            · cases hx.1
                      have hk0 : l.map (opd t3) = l.map (opd ts0) := by
                        rw [opd_keep hrun l hk2]
                        exact opd_keep (C := C) (k := k) (c := .region [⟨o.dst, .pu (.mov (.c undefV)), none⟩]) (h := h0) (h' := h0) (x := .normal) (by simp only [runC, iops, iop, wants, op1, pure1, opd]) l hk1
                      have n2 : h3.nx ≤ h2.nx := (hN g _ _ _ _ hg2).1
                      have n1 : h0.nx ≤ h3.nx := (runC_nx hN _ hrun).1
                      refine wp_seq (wp_region_list ?_)
                      rw [splitDef_eq hsp]
                      refine iops_then hC hN pre il hil e w ts ts0 h h0 a hg hio hra s (hf.sub (Nat.le_refl _) (by omega)) ?_
                      intro e0 a0 w0 r0 s0 st0 d0
                      unfold wpList
                      have hw : Region.wanted o (yielded rops a0.tmps) = true := by
                        simp [Region.wanted, hgd]
                      rw [hw, if_pos rfl]
                      refine .inl ?_
                      have hq : (execOp a0.eval o).run P w0 = .ok (.defer { target := .fn (.func g) #[], args := dc.args.map a0.eval }) w0 := by
                        simp [execOp, hop, resolve, hcal, Act.eval, Deferred.ofValue]
                      have hargs := trOs_R (a := a0) (hg.mono st0.le) r0 hl
                      unfold Oper.wp
                      rw [hq, Oper.upon_defer]
                      unfold wpList
                      refine code_sound hC hN hm rest b0 hb0 e0 w0 _ t3 h0 h3 y _ _ (hg.mono st0.le) hrun (RL_put (a := { tmps := a0.tmps, defers := { target := .fn (.func g) #[], args := dc.args.map a0.eval } :: a0.defers }) r0 o.dst (R_undef e0)) s0 ((hf.next st0).sub (Nat.le_refl _) n2) ?_
                      intro e1 a1 w1 r1 s1 st1 d1
                      have hL : Leaves P fn a1.tmps Rr a1.defers .returning w1 := by
                        rw [d1, put_defers, d0, hd]
                        refine leaves_cons (f := g) (args := dc.args.map a0.eval) (by simp) ?_ ?_
                        · have hgn : (fg.name == "runtime.NumGoroutine") = false ∧ fg.body.isNone = false := by
                            obtain ⟨⟨fg2, q1, q2, q3⟩, _⟩ := hC g _ _ _ _ hg2
                            rw [hfg] at q1; cases q1
                            exact ⟨q2, q3⟩
                          simp only [invoke, Array.append_empty, callFunc, Sem.run_bind, run_program, Result.andThen_ok, hfg, hgn.1, Bool.false_eq_true, if_false, hgn.2]
                          rfl
                        · refine (hD g fg cg hfg hcg hpl _ _ _ _ hg2 e1 w1 _ ?_ s1 ((hg.mono st0.le).mono st1.le) ((hf.next st0).next st1)).mono ?_
                          · rw [hk0, Array.toList_map]
                            exact RL.mono st1.le _ _ hargs
                          · rintro en u' w2 ⟨rfl, v3, rfl, e2, q1, q2, q3⟩
                            obtain ⟨v4, q4, q5⟩ := results_sound (RL.mono q3.le _ _ r1) q2 hr hres
                            exact ⟨v4, q4, hR _ _ ⟨v4, rfl, e2, q5, q2, (st0.trans st1).trans q3⟩⟩
                      rcases hx2 with rfl | rfl
                      · exact hL
                      · exact hL
                  · cases ht
                · cases ht
              · cases ht
            · cases ht
          · cases ht
        · rename_i hsp
          split at ht
          · rename_i il r' hil hr'
            cases ht
            simp only [runC] at hx
            cases hio : iops C il ts h with
            | none => rw [hio] at hx; simp at hx
            | some q0 =>
              obtain ⟨ts0, h0⟩ := q0
              rw [hio] at hx
              simp only at hx
              have n2 : h0.nx ≤ h2.nx := (runC_nx hN _ hx).1
              refine wp_seq (wp_region_list ?_)
              refine iops_sound hC hN rops.toList il hil e w ts ts0 h h0 a hg hio hra s (hf.sub (Nat.le_refl _) n2) ?_
              intro e0 a0 w0 r0 s0 st0 d0
              exact ih r' hr' e0 w0 ts0 t2 h0 h2 x v a0 Rr (hg.mono st0.le) hx hres r0 s0 (hf.next st0) (d0.trans hd) (fun en w' ⟨v', q1, e2, q2, q3, q4⟩ => hR en w' ⟨v', q1, e2, q2, q3, st0.trans q4⟩) hxx
          · cases ht
    | _ => simp only [trDef] at ht; cases ht
  | _ => intro ic ht; simp only [trDef] at ht; cases ht

/-- WHAT THE ABSTRACT MACHINE COMES TO, THE LOADED PROGRAM COMES TO. -/
theorem ev_sound {IP : Nat → Option IFn} (hP : ProgOK P gs IP) : ∀ k, CallOK P gs (ev IP k) := by
  intro k
  induction k using Nat.strongRecOn with
  | _ k ih =>
  cases k with
  | zero => intro f args h v h' hx; simp only [ev] at hx; cases hx
  | succ k =>
  intro f args h v h' hx
  have hC := ih k (Nat.lt_succ_self k)
  simp only [ev] at hx
  split at hx
  · rename_i ir hir
    obtain ⟨fn, hfn, htr⟩ := hP.2 f ir hir
    unfold trFn at htr
    split at htr
    · rename_i c hbody
      split at htr
      · rename_i b r hb hr
        split at htr
        · rename_i hname
          cases htr
          refine ⟨⟨fn, hfn, hname, by rw [hbody]; rfl⟩, fun e w args' hra s hg hf => ?_⟩
          unfold trBody at hb
          split at hb
          · rename_i b' hb'
            cases hb
            exact calls_of_wp hfn hbody (plain_wp hC (ev_nx k) hP.1 hb' hr hx hra s hg hf)
          · have hra0 : RL e (args ++ List.replicate (fn.ntmps - args.length) undefV) (args' ++ Array.replicate (fn.ntmps - args'.size) undef).toList := by
              have hl := hra.length
              simp only [Array.length_toList] at hl
              rw [Array.toList_append, Array.toList_replicate, hl]
              exact hra.append (RL.replicate (R_undef e) _)
            have hDD : ∀ g fg cg, P.funcs[g]? = some fg → fg.body = some cg → (trC P gs cg).isSome = true → ∀ args h v h', ev IP k g args h = some (v, h') → ∀ (e : En) (w : World) (args' : Array Value), RL e args args'.toList → Sim e h w → Glob e gs → Fresh e h.nx h'.nx →
                CallsD P g args' .returning w fun en u' w' => u' = .returning ∧ Post e h w v h' en w' := by
              intro g fg cg hfg hcg hpl args h v h' hg2 e1 w1 args1 q1 q2 q3 q4
              cases k with
              | zero => simp only [ev] at hg2; cases hg2
              | succ k' =>
                simp only [ev] at hg2
                split at hg2
                · rename_i irg hirg
                  obtain ⟨fg', hfg', htrg⟩ := hP.2 g irg hirg
                  rw [hfg] at hfg'; cases hfg'
                  unfold trFn at htrg
                  rw [hcg] at htrg
                  simp only at htrg
                  split at htrg
                  · rename_i bg rg hbg hrg
                    split at htrg
                    · cases htrg
                      unfold trBody at hbg
                      split at hbg
                      · rename_i bg' hbg'
                        cases hbg
                        exact callsD_of_wp hfg hcg (plain_wp (ih k' (by omega)) (ev_nx k') hP.1 hbg' hrg hg2 q1 q2 q3 q4)
                      · rename_i hno; rw [hno] at hpl; cases hpl
                    · cases htrg
                  · cases htrg
                · cases hg2
            refine calls_of_wp_defers hfn hbody ?_
            split at hx
            · rename_i ts h1 hrun
              split at hx
              · rename_i u hu
                cases hx
                exact def_sound hC (ev_nx k) hP.1 hDD hr c b hb e w _ ts h h' .normal v _ _ hg hrun hu hra0 s hf rfl (fun _ _ h => h) (.inl rfl)
              · cases hx
            · rename_i ts h1 hrun
              split at hx
              · rename_i u hu
                cases hx
                exact def_sound hC (ev_nx k) hP.1 hDD hr c b hb e w _ ts h h' .ret v _ _ hg hrun hu hra0 s hf rfl (fun _ _ h => h) (.inr rfl)
              · cases hx
            · cases hx
        · cases htr
      · cases htr
    · cases htr
  · cases hx

/-- of each thing in a tree, with its number -/
def Tr.All {α : Type} (Q : Nat → α → Prop) : Tr α → Nat → Nat → Prop
  | .l, _, _ => True
  | .n x v y, a, b => (∀ i, v = some i → Q b i) ∧ Tr.All Q x (2 * a) (a + b) ∧ Tr.All Q y (2 * a) (2 * a + b)

theorem Tr.All.get {α : Type} {Q : Nat → α → Prop} : ∀ {t : Tr α} {a b : Nat}, t.All Q a b → ∀ {k : Nat} {i : α}, t.get k = some i → Q (a * k + b) i
  | .l, a, b, _, k, i, h => by simp only [Tr.get] at h; cases h
  | .n x v y, a, b, hall, k, i, h => by
    obtain ⟨h1, h2, h3⟩ := hall
    simp only [Tr.get] at h
    by_cases hk : k = 0
    · rw [if_pos hk] at h; subst hk; rw [Nat.mul_zero, Nat.zero_add]; exact h1 i h
    · rw [if_neg hk] at h
      by_cases ho : k % 2 = 1
      · rw [if_pos ho] at h
        have := h2.get h
        have e : 2 * a * (k / 2) + (a + b) = a * k + b := by
          have : k = 2 * (k / 2) + 1 := by omega
          conv => rhs; rw [this]
          rw [Nat.mul_add, Nat.mul_one, Nat.mul_comm 2 a, Nat.mul_assoc, Nat.add_assoc]
        rwa [e] at this
      · rw [if_neg ho] at h
        have := h3.get h
        have e : 2 * a * (k / 2 - 1) + (2 * a + b) = a * k + b := by
          have : k = 2 * (k / 2 - 1) + 2 := by omega
          conv => rhs; rw [this]
          rw [Nat.mul_add, Nat.mul_comm 2 a, Nat.mul_assoc, Nat.add_assoc]
        rwa [e] at this

theorem progOK_of_tree {t : Tr IFn} (hm : P.follows .mixedOrders = true) (h : t.All (fun f ir => ∃ fn, P.funcs[f]? = some fn ∧ trFn P gs fn = some ir) 1 0) : ProgOK P gs (fun f => t.get f) :=
  ⟨hm, fun f ir hf => by have := h.get hf; rwa [Nat.one_mul, Nat.add_zero] at this⟩

end
end Mx
