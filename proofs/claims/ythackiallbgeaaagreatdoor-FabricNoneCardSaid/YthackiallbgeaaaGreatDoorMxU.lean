import Derived.Test.YthackiallbgeaaaGreatDoorMxS
namespace Mx
open Go
abbrev E := Nat → V
def upd (e : E) (n : Nat) (v : V) : E := fun k => bif Nat.beq k n then v else e k
def updO (e : E) (d : Option Nat) (v : V) : E := match d with
  | some d => upd e d v
  | none => e
def envOf (ts : T) : E := fun k => ts.getD k undefV
def oE (e : E) : Opd → V
  | .t n => e n
  | .c v => v
  | .f n => .fn n []
  | .g n => .p (some (n, 0))
def vPick (c a b : V) : Option V := match c with
  | .b true => some a
  | .b false => some b
  | _ => none
def vEqz (neg : Bool) (k : EK) (x y : V) : Option V := match eqz k x y with
  | some r => some (.b (if neg then !r else r))
  | none => none
def vEqa (neg : Bool) (ks : List K) (x y : V) : Option V := match x, y with
  | .agg a, .agg b => match eqList ks a b with
    | some r => some (.b (if neg then !r else r))
    | none => none
  | _, _ => none
def vCvi (k : IntKind) (x : V) : Option V := match x with
  | .i _ n => some (.i k (k.wrap n))
  | _ => none
def vFa (off : Nat) (x : V) : Option V := match x with
  | .p (some (id, o)) => some (.p (some (id, o + off)))
  | _ => none
def vNilc (x : V) : Option V := match x with
  | .p (some a) => some (.p (some a))
  | .fn f c => some (.fn f c)
  | _ => none
def vFld (agg : Bool) (off n : Nat) (x : V) : Option V := match x with
  | .agg l => part agg l off n
  | _ => none
def vIxa (agg : Bool) (n len : Nat) (x i : V) : Option V := match x, i with
  | .agg l, .i _ j => if 0 ≤ j ∧ j < (len : Int) then part agg l (j.toNat * n) n else none
  | _, _ => none
def vIxs (x i : V) : Option V := match x, i with
  | .s s, .i _ j => if 0 ≤ j then match s[j.toNat]? with
      | some c => some (.i .u8 c.toNat)
      | none => none
    else none
  | _, _ => none
def vIa (esz : Nat) (x i : V) : Option V := match x, i with
  | .sl id off len _, .i _ j => if 0 ≤ j ∧ j < (len : Int) then some (.p (some (id, off + j.toNat * esz))) else none
  | _, _ => none
def vIaa (esz len : Nat) (x i : V) : Option V := match x, i with
  | .p (some (id, off)), .i _ j => if 0 ≤ j ∧ j < (len : Int) then some (.p (some (id, off + j.toNat * esz))) else none
  | _, _ => none
def vSla (esz len : Nat) (x : V) (lo hi mx : Option V) : Option V := match x with
  | .p (some (id, off)) => slcut esz (.sl id off len (.ex len)) lo hi mx
  | _ => none
def vSlt (x : V) (lo hi : Option V) : Option V := match x with
  | .s s => match bounds s.size s.size lo hi none with
    | some (l, h, _) => some (.s (s.extract l h))
    | none => none
  | _ => none
def vExt (x : V) (i : Nat) : Option V := match x with
  | .tup l => l[i]?
  | _ => none
def vBld (z : List V) (parts : List (Nat × Nat × V)) : Option V := match fill z parts with
  | some l => some (.agg l)
  | none => none
def vCaps (x : V) : Option V := match capV x with
  | some n => some (.i .i64 n)
  | none => none
def vLens (x : V) : Option V := match lenV x with
  | some n => some (.i .i64 n)
  | none => none
def vLent (x : V) : Option V := match x with
  | .s s => some (.i .i64 s.size)
  | _ => none
def oO (e : E) (o : Option Opd) : Option V := match o with
  | some x => some (oE e x)
  | none => none
def oL (e : E) : List Opd → List V
  | [] => []
  | x :: l => oE e x :: oL e l
def oP (e : E) : List (Nat × Nat × Opd) → List (Nat × Nat × V)
  | [] => []
  | p :: l => (p.1, p.2.1, oE e p.2.2) :: oP e l
def pureE (e : E) : PO → Option V
  | .mov x => some (oE e x)
  | .pick c a b => vPick (oE e c) (oE e a) (oE e b)
  | .bin o x y => bin o (oE e x) (oE e y)
  | .eqz neg k x y => vEqz neg k (oE e x) (oE e y)
  | .eqa neg ks x y => vEqa neg ks (oE e x) (oE e y)
  | .un o x => un o (oE e x)
  | .cvi k x => vCvi k (oE e x)
  | .fa off x => vFa off (oE e x)
  | .nilc x => vNilc (oE e x)
  | .fld agg off n x => vFld agg off n (oE e x)
  | .ixa agg n len x i => vIxa agg n len (oE e x) (oE e i)
  | .ixs x i => vIxs (oE e x) (oE e i)
  | .ia esz x i => vIa esz (oE e x) (oE e i)
  | .iaa esz len x i => vIaa esz len (oE e x) (oE e i)
  | .sls esz x lo hi mx => slcut esz (oE e x) (oO e lo) (oO e hi) (oO e mx)
  | .sla esz len x lo hi mx => vSla esz len (oE e x) (oO e lo) (oO e hi) (oO e mx)
  | .slt x lo hi => vSlt (oE e x) (oO e lo) (oO e hi)
  | .mkf f caps => some (.fn f (oL e caps))
  | .ext x i => vExt (oE e x) i
  | .bld z parts => vBld z (oP e parts)
  | .lens x => vLens (oE e x)
  | .capn x => vCaps (oE e x)
  | .lent x => vLent (oE e x)
  | .min x xs => foldO min2 (oE e x) (oL e xs)
  | .max x xs => foldO max2 (oE e x) (oL e xs)
theorem oE_env (ts : T) (x : Opd) : oE (envOf ts) x = opd ts x := by cases x <;> rfl
theorem oO_env (ts : T) (x : Option Opd) : oO (envOf ts) x = x.map (opd ts) := by
  cases x with
  | none => rfl
  | some x => simp only [oO, oE_env, Option.map_some]
theorem oL_env (ts : T) : ∀ l : List Opd, oL (envOf ts) l = l.map (opd ts)
  | [] => rfl
  | x :: l => by simp only [oL, oE_env, oL_env ts l, List.map_cons]
theorem oP_env (ts : T) : ∀ l : List (Nat × Nat × Opd), oP (envOf ts) l = l.map fun p => (p.1, p.2.1, opd ts p.2.2)
  | [] => rfl
  | x :: l => by simp only [oP, oE_env, oP_env ts l, List.map_cons]
theorem pure_env (ts : T) (o : PO) : pureE (envOf ts) o = pure1 ts o := by
  cases o <;> simp only [pureE, oE_env, oO_env, oL_env, oP_env] <;> first | rfl | (simp only [pure1, vLens]; cases opd ts _ <;> rfl)
def vBox (v : V) (h : H) : Option (V × H) := if v.cells.all V.one then some (.p (some (h.nx, 0)), h.new { ro := false, c := v.cells }) else none
def vNewSl (len : Nat) (cells : List V) (parts : List (Nat × Nat × V)) (h : H) : Option (V × H) := match fill cells parts with
  | some l => some (.sl h.nx 0 len (.ex len), h.new { ro := false, c := l })
  | none => none
def vMake (bytes : Nat) (z : List V) (len : V) (h : H) : Option (V × H) := match len with
  | .i _ n => if 0 ≤ n ∧ n.toNat * bytes ≤ room ∧ n ≤ 9223372036854775807 then
      some (.sl h.nx 0 n.toNat (.ex n.toNat), h.new { ro := false, c := zrep z n.toNat }) else none
  | _ => none
def H.at (h : H) (id off : Nat) : Option V := match h.get id with
  | some o => o.c[off]?
  | none => none
def vLdA (h : H) (n : Nat) (a : V) : Option V := match a with
  | .p (some (id, off)) => match h.load id off n with
    | some l => some (.agg l)
    | none => none
  | _ => none
def vLd1 (h : H) (a : V) : Option V := match a with
  | .p (some (id, off)) => h.at id off
  | _ => none
def vLd (h : H) (agg : Bool) (n : Nat) (a : V) : Option V := match agg with
  | true => vLdA h n a
  | false => vLd1 h a
theorem load_one (h : H) (id off : Nat) : h.load id off 1 = match h.at id off with
    | some v => some [v]
    | none => none := by
  unfold H.load H.at
  cases h.get id with
  | none => rfl
  | some o => simp only [cut_one]; rfl
def allocE (e : E) (h : H) : AO → Option (V × H)
  | .box x => vBox (oE e x) h
  | .zero z => some (.p (some (h.nx, 0)), h.new { ro := false, c := z })
  | .sl len cells parts => vNewSl len cells (oP e parts) h
  | .mks bytes z len => vMake bytes z (oE e len) h
theorem alloc_env (ts : T) (h : H) (o : AO) : allocE (envOf ts) h o = alloc1 ts h o := by
  cases o <;> simp only [allocE, oE_env, oP_env] <;> rfl
theorem ld_env (ts : T) (h : H) (agg : Bool) (n : Nat) (a : Opd) : vLd h agg n (oE (envOf ts) a) = load1 ts h agg n a := by
  rw [oE_env]
  unfold load1
  cases agg with
  | true => simp only [vLd, vLdA, if_true]; rfl
  | false =>
    simp only [vLd, vLd1, Bool.false_eq_true, if_false]
    rcases opd ts a with _ | _ | _ | p | _ | _ | _ | _ | _ | _ | _ <;> try rfl
    rcases p with _ | ⟨id, off⟩
    · rfl
    · simp only [load_one]
      cases h.at id off <;> rfl
def vStore (h : H) (n : Nat) (a x : V) : Option (V × H) := match a with
  | .p (some (id, off)) => if x.cells.length = n then match h.store id off x.cells with
      | some h' => some (undefV, h')
      | none => none
    else none
  | _ => none
def vApp (esz bytes : Nat) (s x : V) (h : H) : Option (V × H) := match lenV x, source esz h x with
  | some n, some new => append1 esz bytes h s n new
  | _, _ => none
def vClear (z : List V) (x : V) (h : H) : Option (V × H) := match x with
  | .sl id off n _ => if n = 0 then some (undefV, h) else match h.store id off (zrep z n) with
    | some h' => some (undefV, h')
    | none => none
  | .nsl => some (undefV, h)
  | .es _ => some (undefV, h)
  | .so _ _ _ => some (undefV, h)
  | _ => none
def vCopy (esz : Nat) (d x : V) (h : H) : Option (V × H) := match lenV d, lenV x, source esz h x with
  | some m, some n, some l => match d with
    | .sl id off _ _ => match h.store id off (l.take (Nat.min n m * esz)) with
      | some h' => some (.i .i64 (Nat.min n m : Nat), h')
      | none => none
    | _ => if m = 0 then some (.i .i64 0, h) else none
  | _, _, _ => none
def vBtos (x : V) (h : H) : Option (V × H) := match source 1 h x with
  | some l => match bytesOf l with
    | some b => some (.s (b.foldl (fun r n => r.push (UInt8.ofNat n.toNat)) ByteArray.empty), h)
    | none => none
  | none => none
def vStob (x : V) (h : H) : Option (V × H) := match x with
  | .s t => if t.size * 2 ≤ room then some (.sl h.nx 0 t.size (.op 1), h.new { ro := true, c := t.toList.map fun c => .i .u8 c.toNat }) else none
  | _ => none
def effE (e : E) (h : H) : EO → Option (V × H)
  | .store n a x => vStore h n (oE e a) (oE e x)
  | .call _ _ => none
  | .callv _ _ => none
  | .app esz bytes s x => vApp esz bytes (oE e s) (oE e x) h
  | .appz esz bytes z s n => appz1 esz bytes z h (oE e s) (oE e n)
  | .clear z x => vClear z (oE e x) h
  | .copy esz d x => vCopy esz (oE e d) (oE e x) h
  | .btos x => vBtos (oE e x) h
  | .stob x => vStob (oE e x) h
theorem eff_env (ts : T) (h : H) (o : EO) (ho : o.calm = true) : effE (envOf ts) h o = eff0 ts h o := by
  cases o <;> first | (simp only [EO.calm] at ho; done) | (simp only [effE, oE_env]; rfl) | (simp [EO.calm] at ho)
section
variable (IP : Nat → Option IFn)
def denOp (d : Option Nat) (op : Op) (K : E → H → Prop) (e : E) (h : H) : Prop :=
  match op with
  | .pu o => match o with
    | .mov x => K (updO e d (oE e x)) h
    | o => @Bnd V (pureE e o) ⟨fun v => K (updO e d v) h⟩
  | .al o => @Bnd (V × H) (allocE e h o) ⟨fun r => K (updO e d r.1) r.2⟩
  | .ld agg n a => @Bnd V (vLd h agg n (oE e a)) ⟨fun v => K (updO e d v) h⟩
  | .ef o => match o with
    | .call f args => @wF IP f (oL e args) h ⟨fun v h' => K (updO e d v) h'⟩
    | .callv x args => @wV IP (oE e x) (oL e args) h ⟨fun v h' => K (updO e d v) h'⟩
    | o => @Bnd (V × H) (effE e h o) ⟨fun r => K (updO e d r.1) r.2⟩
def denOps : List IOp → (E → H → Prop) → E → H → Prop
  | [], Q => Q
  | o :: l, Q => match o.guard with
    | none => denOp IP o.dst o.op (denOps l Q)
    | some g => fun e h => @Grd (e g.1) g.2 ⟨denOp IP o.dst o.op (denOps l Q) e h⟩ ⟨denOps l Q (updO e o.dst undefV) h⟩
def denT2 : List IOp → (List (E × H) → E → H → Prop) → List (E × H) → E → H → Prop
  | [], Q, st => Q st
  | o :: l, Q, st => match o.guard with
    | none => fun e h => denOp IP o.dst o.op (denT2 l Q ((e, h) :: st)) e h
    | some g => fun e h => @Grd (e g.1) g.2 ⟨denOp IP o.dst o.op (denT2 l Q ((e, h) :: st)) e h⟩ ⟨denT2 l Q ((e, h) :: st) (updO e o.dst undefV) h⟩
def stdy (agg : Bool) (n : Nat) (a : V) (h h' : H) : Bool := match a with
  | .p (some (id, off)) =>
    if h.nx ≤ id then true else
    match h.load id off (if agg then n else 1), h'.load id off (if agg then n else 1) with
    | some x, some y => V.sames x y
    | _, _ => false
  | _ => false
def stdyG (g : V) (w : Bool) (b : Bool) : Bool := match g with
  | .b x => if x == w then b else true
  | _ => true
def Chk (c : Bool) [Q : Hid Prop] : Prop := c = true ∧ Q.un
def eh0 : E × H := (fun _ => undefV, ⟨0, .l⟩)
def stAt (st : List (E × H)) (N i : Nat) : E × H := st.getD (N - i) eh0
def stdyE (ops : List IOp) (st : List (E × H)) (N l e : Nat) : Bool :=
  match ops[l]? with
  | some o => match o.op with
    | .ld agg n a => match o.guard with
      | none => stdy agg n (oE (stAt st N l).1 a) (stAt st N e).2 (stAt st N (e + 1)).2
      | some g => stdyG ((stAt st N l).1 g.1) g.2 (stdy agg n (oE (stAt st N l).1 a) (stAt st N e).2 (stAt st N (e + 1)).2)
    | _ => false
  | none => false
def chkAll (ops : List IOp) (st : List (E × H)) (N : Nat) : List (Nat × Nat) → Prop → Prop
  | [], Q => Q
  | p :: ps, Q => @Chk (stdyE ops st N p.1 p.2) ⟨chkAll ops st N ps Q⟩
def wFix {A : Type} (F : (A → H → Prop) → A → H → Prop) (a : A) (h : H) : Prop := ∀ P : A → H → Prop, (∀ a h, F P a h → P a h) → P a h
def Qx (g : E → H → Prop) (Q : X → E → H → Prop) : X → E → H → Prop
  | .normal => g
  | x => Q x
def Qb (id : Nat) (Q : X → E → H → Prop) : X → E → H → Prop
  | .exit i => bif Nat.beq i id then Q .normal else Q (.exit i)
  | x => Q x
def den : IC → (X → E → H → Prop) → E → H → Prop
  | .skip, Q => Q .normal
  | .region ops, Q => denOps IP ops (Q .normal)
  | .draw ops ps, Q => match ps with
    | [] => denOps IP ops (Q .normal)
    | p :: ps => denT2 IP ops (fun st e h => chkAll ops ((e, h) :: st) ops.length (p :: ps) (Q .normal e h)) []
  | .seq a b, Q => den a (Qx (den b Q) Q)
  | .cond c a b, Q => fun e h => @Sel (oE e c) ⟨den a Q e h⟩ ⟨den b Q e h⟩
  | .block id c, Q => den c (Qb id Q)
  | .loop c, Q => wFix fun g => den c (Qx g Q)
  | .exit id, Q => Q (.exit id)
  | .ret, Q => Q .ret
def tupV : List V → V
  | [v] => v
  | vs => .tup vs
def dOK (n : Nat) : Option Nat → Bool
  | some d => Nat.blt d n
  | none => true
def opsOK (n : Nat) (l : List IOp) : Bool := l.all fun o => dOK n o.dst
def IC.ok (n : Nat) : IC → Bool
  | .region ops => opsOK n ops
  | .draw ops ps => opsOK n ops && ps.all fun p => Nat.blt p.1 ops.length && Nat.blt p.2 ops.length
  | .seq a b => a.ok n && b.ok n
  | .cond _ a b => a.ok n && b.ok n
  | .block _ c => c.ok n
  | .loop c => c.ok n
  | _ => true
variable {IP}
theorem env_put {ts : T} {d : Option Nat} {v : V} (hd : dOK ts.length d = true) : envOf (putT ts d v) = updO (envOf ts) d v := by
  cases d with
  | none => rfl
  | some d =>
    have hd' : d < ts.length := by
      simp only [dOK, Nat.blt_eq] at hd; exact hd
    funext k
    simp only [envOf, putT, updO, upd, List.getD_eq_getElem?_getD, List.getElem?_set]
    by_cases hk : d = k
    · subst hk
      simp [hd']
    · have : Nat.beq k d = false := by
        cases hb : Nat.beq k d with
        | false => rfl
        | true => exact absurd (Nat.eq_of_beq_eq_true hb).symm hk
      rw [if_neg hk, this]; rfl
theorem put_len (ts : T) (d : Option Nat) (v : V) : (putT ts d v).length = ts.length := by
  cases d <;> simp [putT]
def trE (st : List (T × H)) : List (E × H) := st.map fun p => (envOf p.1, p.2)
theorem stAt_trE {st : List (T × H)} {N i : Nat} (hs : st.length = N + 1) (hi : i ≤ N) : ∃ p, st[i]? = some p ∧ stAt (trE st.reverse) N i = (envOf p.1, p.2) := by
  have hlt : i < st.length := by omega
  refine ⟨st[i], List.getElem?_eq_getElem hlt, ?_⟩
  unfold stAt trE
  rw [List.getD_eq_getElem?_getD, List.getElem?_map, List.getElem?_reverse (by omega)]
  have e : st.length - 1 - (N - i) = i := by omega
  rw [e, List.getElem?_eq_getElem hlt]
  rfl
theorem stdyE_eq {ops : List IOp} {st : List (T × H)} {l e : Nat} (hs : st.length = ops.length + 1) (hl : l < ops.length) (he : e < ops.length) : steady ops st l e = stdyE ops (trE st.reverse) ops.length l e := by
  obtain ⟨p, e1, s1⟩ := stAt_trE (i := l) hs (by omega)
  obtain ⟨q, e2, s2⟩ := stAt_trE (i := e) hs (by omega)
  obtain ⟨r, e3, s3⟩ := stAt_trE (i := e + 1) hs (by omega)
  unfold steady stdyE
  rw [e1, e2, e3, s1, s2, s3, List.getElem?_eq_getElem hl]
  obtain ⟨d, op, g⟩ := ops[l]
  cases op with
  | ld agg n a =>
    cases g with
    | none =>
      simp only [wants, oE_env]
      rfl
    | some g =>
      obtain ⟨t, w⟩ := g
      have hw : wants p.1 (some (t, w)) = match envOf p.1 t with | .b x => some (x == w) | _ => some false := by
        simp only [wants, envOf, List.getD_eq_getElem?_getD]
        rcases p.1[t]? with _ | v
        · rfl
        · cases v <;> rfl
      simp only [hw, oE_env, stdyG]
      cases envOf p.1 t <;> first | rfl | skip
      rename_i x
      simp only
      cases hx : x == w <;> first | rfl | (simp only [stdy]; rfl)
  | pu _ => cases g <;> rfl
  | al _ => cases g <;> rfl
  | ef _ => cases g <;> rfl
end
end Mx
