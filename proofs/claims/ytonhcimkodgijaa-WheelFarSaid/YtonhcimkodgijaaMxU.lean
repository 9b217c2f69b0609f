/-
  The abstract machine over environments, as predicates: what a statement asks of what comes behind it. Printed texts without temporaries are compared with this.
-/
import Derived.Test.YtonhcimkodgijaaMxS
namespace Mx
open Go

abbrev E := Nat → V
def upd (e : E) (n : Nat) (v : V) : E := fun k => bif Nat.beq k n then v else e k
def updO (e : E) (d : Option Nat) (v : V) : E := match d with
  | some d => upd e d v
  | none => e
def envOf (ts : T) : E := fun k => ts.getD k undefV
def oE (e : E) : Opd → V
  | .t n => e n
  | .c v => v
  | .f n => .fn n []
  | .g n => .p (some (n, 0))

/-! ### operations on values -/
def vPick (c a b : V) : Option V := match c with
  | .b true => some a
  | .b false => some b
  | _ => none
def vEqz (neg : Bool) (k : EK) (x y : V) : Option V := match eqz k x y with
  | some r => some (.b (if neg then !r else r))
  | none => none
def vEqa (neg : Bool) (ks : List K) (x y : V) : Option V := match x, y with
  | .agg a, .agg b => match eqList ks a b with
    | some r => some (.b (if neg then !r else r))
    | none => none
  | _, _ => none
def vCvi (k : IntKind) (x : V) : Option V := match x with
  | .i _ n => some (.i k (k.wrap n))
  | _ => none
def vFa (off : Nat) (x : V) : Option V := match x with
  | .p (some (id, o)) => some (.p (some (id, o + off)))
  | _ => none
def vNilc (x : V) : Option V := match x with
  | .p (some a) => some (.p (some a))
  | .fn f c => some (.fn f c)
  | _ => none
def vFld (agg : Bool) (off n : Nat) (x : V) : Option V := match x with
  | .agg l => part agg l off n
  | _ => none
def vIxa (agg : Bool) (n len : Nat) (x i : V) : Option V := match x, i with
  | .agg l, .i _ j => if 0 ≤ j ∧ j < (len : Int) then part agg l (j.toNat * n) n else none
  | _, _ => none
def vIxs (x i : V) : Option V := match x, i with
  | .s s, .i _ j => if 0 ≤ j then match s[j.toNat]? with
      | some c => some (.i .u8 c.toNat)
      | none => none
    else none
  | _, _ => none
def vIa (esz : Nat) (x i : V) : Option V := match x, i with
  | .sl id off len _, .i _ j => if 0 ≤ j ∧ j < (len : Int) then some (.p (some (id, off + j.toNat * esz))) else none
  | _, _ => none
def vIaa (esz len : Nat) (x i : V) : Option V := match x, i with
  | .p (some (id, off)), .i _ j => if 0 ≤ j ∧ j < (len : Int) then some (.p (some (id, off + j.toNat * esz))) else none
  | _, _ => none
def vSla (esz len : Nat) (x : V) (lo hi mx : Option V) : Option V := match x with
  | .p (some (id, off)) => slcut esz (.sl id off len (.ex len)) lo hi mx
  | _ => none
def vSlt (x : V) (lo hi : Option V) : Option V := match x with
  | .s s => match bounds s.size s.size lo hi none with
    | some (l, h, _) => some (.s (s.extract l h))
    | none => none
  | _ => none
def vExt (x : V) (i : Nat) : Option V := match x with
  | .tup l => l[i]?
  | _ => none
def vBld (z : List V) (parts : List (Nat × Nat × V)) : Option V := match fill z parts with
  | some l => some (.agg l)
  | none => none
def vCaps (x : V) : Option V := match capV x with
  | some n => some (.i .i64 n)
  | none => none
def vLens (x : V) : Option V := match lenV x with
  | some n => some (.i .i64 n)
  | none => none
def vLent (x : V) : Option V := match x with
  | .s s => some (.i .i64 s.size)
  | _ => none
def oO (e : E) (o : Option Opd) : Option V := match o with
  | some x => some (oE e x)
  | none => none
def oL (e : E) : List Opd → List V
  | [] => []
  | x :: l => oE e x :: oL e l
def oP (e : E) : List (Nat × Nat × Opd) → List (Nat × Nat × V)
  | [] => []
  | p :: l => (p.1, p.2.1, oE e p.2.2) :: oP e l
def pureE (e : E) : PO → Option V
  | .mov x => some (oE e x)
  | .pick c a b => vPick (oE e c) (oE e a) (oE e b)
  | .bin o x y => bin o (oE e x) (oE e y)
  | .eqz neg k x y => vEqz neg k (oE e x) (oE e y)
  | .eqa neg ks x y => vEqa neg ks (oE e x) (oE e y)
  | .un o x => un o (oE e x)
  | .cvi k x => vCvi k (oE e x)
  | .fa off x => vFa off (oE e x)
  | .nilc x => vNilc (oE e x)
  | .fld agg off n x => vFld agg off n (oE e x)
  | .ixa agg n len x i => vIxa agg n len (oE e x) (oE e i)
  | .ixs x i => vIxs (oE e x) (oE e i)
  | .ia esz x i => vIa esz (oE e x) (oE e i)
  | .iaa esz len x i => vIaa esz len (oE e x) (oE e i)
  | .sls esz x lo hi mx => slcut esz (oE e x) (oO e lo) (oO e hi) (oO e mx)
  | .sla esz len x lo hi mx => vSla esz len (oE e x) (oO e lo) (oO e hi) (oO e mx)
  | .slt x lo hi => vSlt (oE e x) (oO e lo) (oO e hi)
  | .mkf f caps => some (.fn f (oL e caps))
  | .ext x i => vExt (oE e x) i
  | .bld z parts => vBld z (oP e parts)
  | .lens x => vLens (oE e x)
  | .capn x => vCaps (oE e x)
  | .lent x => vLent (oE e x)
  | .min x xs => foldO min2 (oE e x) (oL e xs)
  | .max x xs => foldO max2 (oE e x) (oL e xs)

theorem oE_env (ts : T) (x : Opd) : oE (envOf ts) x = opd ts x := by cases x <;> rfl
theorem oO_env (ts : T) (x : Option Opd) : oO (envOf ts) x = x.map (opd ts) := by
  cases x with
  | none => rfl
  | some x => simp only [oO, oE_env, Option.map_some]
theorem oL_env (ts : T) : ∀ l : List Opd, oL (envOf ts) l = l.map (opd ts)
  | [] => rfl
  | x :: l => by simp only [oL, oE_env, oL_env ts l, List.map_cons]
theorem oP_env (ts : T) : ∀ l : List (Nat × Nat × Opd), oP (envOf ts) l = l.map fun p => (p.1, p.2.1, opd ts p.2.2)
  | [] => rfl
  | x :: l => by simp only [oP, oE_env, oP_env ts l, List.map_cons]
theorem pure_env (ts : T) (o : PO) : pureE (envOf ts) o = pure1 ts o := by
  cases o <;> simp only [pureE, oE_env, oO_env, oL_env, oP_env] <;> first | rfl | (simp only [pure1, vLens]; cases opd ts _ <;> rfl)

def vBox (v : V) (h : H) : Option (V × H) := if v.cells.all V.one then some (.p (some (h.nx, 0)), h.new { ro := false, c := v.cells }) else none
def vNewSl (len : Nat) (cells : List V) (parts : List (Nat × Nat × V)) (h : H) : Option (V × H) := match fill cells parts with
  | some l => some (.sl h.nx 0 len (.ex len), h.new { ro := false, c := l })
  | none => none
def vMake (bytes : Nat) (z : List V) (len : V) (h : H) : Option (V × H) := match len with
  | .i _ n => if 0 ≤ n ∧ n.toNat * bytes ≤ room ∧ n ≤ 9223372036854775807 then
      some (.sl h.nx 0 n.toNat (.ex n.toNat), h.new { ro := false, c := zrep z n.toNat }) else none
  | _ => none
/-- one cell -/
def H.at (h : H) (id off : Nat) : Option V := match h.get id with
  | some o => o.c[off]?
  | none => none
def vLdA (h : H) (n : Nat) (a : V) : Option V := match a with
  | .p (some (id, off)) => match h.load id off n with
    | some l => some (.agg l)
    | none => none
  | _ => none
def vLd1 (h : H) (a : V) : Option V := match a with
  | .p (some (id, off)) => h.at id off
  | _ => none
def vLd (h : H) (agg : Bool) (n : Nat) (a : V) : Option V := match agg with
  | true => vLdA h n a
  | false => vLd1 h a
theorem load_one (h : H) (id off : Nat) : h.load id off 1 = match h.at id off with
    | some v => some [v]
    | none => none := by
  unfold H.load H.at
  cases h.get id with
  | none => rfl
  | some o => simp only [cut_one]; rfl
def allocE (e : E) (h : H) : AO → Option (V × H)
  | .box x => vBox (oE e x) h
  | .zero z => some (.p (some (h.nx, 0)), h.new { ro := false, c := z })
  | .sl len cells parts => vNewSl len cells (oP e parts) h
  | .mks bytes z len => vMake bytes z (oE e len) h
theorem alloc_env (ts : T) (h : H) (o : AO) : allocE (envOf ts) h o = alloc1 ts h o := by
  cases o <;> simp only [allocE, oE_env, oP_env] <;> rfl
theorem ld_env (ts : T) (h : H) (agg : Bool) (n : Nat) (a : Opd) : vLd h agg n (oE (envOf ts) a) = load1 ts h agg n a := by
  rw [oE_env]
  unfold load1
  cases agg with
  | true => simp only [vLd, vLdA, if_true]; rfl
  | false =>
    simp only [vLd, vLd1, Bool.false_eq_true, if_false]
    rcases opd ts a with _ | _ | _ | p | _ | _ | _ | _ | _ | _ | _ <;> try rfl
    rcases p with _ | ⟨id, off⟩
    · rfl
    · simp only [load_one]
      cases h.at id off <;> rfl

def vStore (h : H) (n : Nat) (a x : V) : Option (V × H) := match a with
  | .p (some (id, off)) => if x.cells.length = n then match h.store id off x.cells with
      | some h' => some (undefV, h')
      | none => none
    else none
  | _ => none
def vApp (esz bytes : Nat) (s x : V) (h : H) : Option (V × H) := match lenV x, source esz h x with
  | some n, some new => append1 esz bytes h s n new
  | _, _ => none
def vClear (z : List V) (x : V) (h : H) : Option (V × H) := match x with
  | .sl id off n _ => if n = 0 then some (undefV, h) else match h.store id off (zrep z n) with
    | some h' => some (undefV, h')
    | none => none
  | .nsl => some (undefV, h)
  | .es _ => some (undefV, h)
  | .so _ _ _ => some (undefV, h)
  | _ => none
def vCopy (esz : Nat) (d x : V) (h : H) : Option (V × H) := match lenV d, lenV x, source esz h x with
  | some m, some n, some l => match d with
    | .sl id off _ _ => match h.store id off (l.take (Nat.min n m * esz)) with
      | some h' => some (.i .i64 (Nat.min n m : Nat), h')
      | none => none
    | _ => if m = 0 then some (.i .i64 0, h) else none
  | _, _, _ => none
def vBtos (x : V) (h : H) : Option (V × H) := match source 1 h x with
  | some l => match bytesOf l with
    | some b => some (.s (b.foldl (fun r n => r.push (UInt8.ofNat n.toNat)) ByteArray.empty), h)
    | none => none
  | none => none
def vStob (x : V) (h : H) : Option (V × H) := match x with
  | .s t => if t.size * 2 ≤ room then some (.sl h.nx 0 t.size (.op 1), h.new { ro := true, c := t.toList.map fun c => .i .u8 c.toNat }) else none
  | _ => none
def effE (e : E) (h : H) : EO → Option (V × H)
  | .store n a x => vStore h n (oE e a) (oE e x)
  | .call _ _ => none
  | .callv _ _ => none
  | .app esz bytes s x => vApp esz bytes (oE e s) (oE e x) h
  | .appz esz bytes z s n => appz1 esz bytes z h (oE e s) (oE e n)
  | .clear z x => vClear z (oE e x) h
  | .copy esz d x => vCopy esz (oE e d) (oE e x) h
  | .btos x => vBtos (oE e x) h
  | .stob x => vStob (oE e x) h
theorem eff_env (ts : T) (h : H) (o : EO) (ho : o.calm = true) : effE (envOf ts) h o = eff0 ts h o := by
  cases o <;> first | (simp only [EO.calm] at ho; done) | (simp only [effE, oE_env]; rfl) | (simp [EO.calm] at ho)

/-! ### statements -/
section
variable (IP : Nat → Option IFn)
def denOp (d : Option Nat) (op : Op) (K : E → H → Prop) (e : E) (h : H) : Prop :=
  match op with
  | .pu o => match o with
    | .mov x => K (updO e d (oE e x)) h
    | o => @Bnd V (pureE e o) ⟨fun v => K (updO e d v) h⟩
  | .al o => @Bnd (V × H) (allocE e h o) ⟨fun r => K (updO e d r.1) r.2⟩
  | .ld agg n a => @Bnd V (vLd h agg n (oE e a)) ⟨fun v => K (updO e d v) h⟩
  | .ef o => match o with
    | .call f args => @wF IP f (oL e args) h ⟨fun v h' => K (updO e d v) h'⟩
    | .callv x args => @wV IP (oE e x) (oL e args) h ⟨fun v h' => K (updO e d v) h'⟩
    | o => @Bnd (V × H) (effE e h o) ⟨fun r => K (updO e d r.1) r.2⟩

def denOps : List IOp → (E → H → Prop) → E → H → Prop
  | [], Q => Q
  | o :: l, Q => match o.guard with
    | none => denOp IP o.dst o.op (denOps l Q)
    | some g => fun e h => @Grd (e g.1) g.2 ⟨denOp IP o.dst o.op (denOps l Q) e h⟩ ⟨denOps l Q (updO e o.dst undefV) h⟩

/-- the states ahead of each operation are kept, the last one first -/
def denT : List IOp → (List (E × H) → E → H → Prop) → List (E × H) → E → H → Prop
  | [], Q, st => fun e h => Q ((e, h) :: st) e h
  | o :: l, Q, st => match o.guard with
    | none => fun e h => denOp IP o.dst o.op (denT l Q ((e, h) :: st)) e h
    | some g => fun e h => @Grd (e g.1) g.2 ⟨denOp IP o.dst o.op (denT l Q ((e, h) :: st)) e h⟩ ⟨denT l Q ((e, h) :: st) (updO e o.dst undefV) h⟩

/-- the same, without the last state -/
def denT2 : List IOp → (List (E × H) → E → H → Prop) → List (E × H) → E → H → Prop
  | [], Q, st => Q st
  | o :: l, Q, st => match o.guard with
    | none => fun e h => denOp IP o.dst o.op (denT2 l Q ((e, h) :: st)) e h
    | some g => fun e h => @Grd (e g.1) g.2 ⟨denOp IP o.dst o.op (denT2 l Q ((e, h) :: st)) e h⟩ ⟨denT2 l Q ((e, h) :: st) (updO e o.dst undefV) h⟩
theorem denT2_eq : ∀ (l : List IOp) (Q : List (E × H) → E → H → Prop) (st : List (E × H)), denT IP l Q st = denT2 IP l (fun st e h => Q ((e, h) :: st) e h) st
  | [], _, _ => rfl
  | ⟨d, op, g⟩ :: l, Q, st => by
    cases g with
    | none =>
      funext e h
      show denOp IP d op (denT IP l Q ((e, h) :: st)) e h = denOp IP d op (denT2 IP l _ ((e, h) :: st)) e h
      rw [denT2_eq l Q]
    | some g =>
      funext e h
      show @Grd (e g.1) g.2 ⟨denOp IP d op (denT IP l Q ((e, h) :: st)) e h⟩ ⟨denT IP l Q ((e, h) :: st) (updO e d undefV) h⟩ = @Grd (e g.1) g.2 ⟨denOp IP d op (denT2 IP l _ ((e, h) :: st)) e h⟩ ⟨denT2 IP l _ ((e, h) :: st) (updO e d undefV) h⟩
      rw [denT2_eq l Q]

/-- a load reads the same ahead of and behind what changes the heap -/
def stdy (agg : Bool) (n : Nat) (a : V) (h h' : H) : Bool := match a with
  | .p (some (id, off)) =>
    if h.nx ≤ id then true else
    match h.load id off (if agg then n else 1), h'.load id off (if agg then n else 1) with
    | some x, some y => V.sames x y
    | _, _ => false
  | _ => false
def stdyG (g : V) (w : Bool) (b : Bool) : Bool := match g with
  | .b x => if x == w then b else true
  | _ => true
/-- what must be, ahead of the rest -/
def Chk (c : Bool) [Q : Hid Prop] : Prop := c = true ∧ Q.un
theorem Chk_true (Q : Prop) : @Chk true ⟨Q⟩ ↔ Q := ⟨fun h => h.2, fun h => ⟨rfl, h⟩⟩
theorem Chk_of {c : Bool} {Q : Prop} (hc : c = true) (q : Q) : @Chk c ⟨Q⟩ := ⟨hc, q⟩

def eh0 : E × H := (fun _ => undefV, ⟨0, .l⟩)
def stAt (st : List (E × H)) (N i : Nat) : E × H := st.getD (N - i) eh0
def stdyE (ops : List IOp) (st : List (E × H)) (N l e : Nat) : Bool :=
  match ops[l]? with
  | some o => match o.op with
    | .ld agg n a => match o.guard with
      | none => stdy agg n (oE (stAt st N l).1 a) (stAt st N e).2 (stAt st N (e + 1)).2
      | some g => stdyG ((stAt st N l).1 g.1) g.2 (stdy agg n (oE (stAt st N l).1 a) (stAt st N e).2 (stAt st N (e + 1)).2)
    | _ => false
  | none => false
def chkAll (ops : List IOp) (st : List (E × H)) (N : Nat) : List (Nat × Nat) → Prop → Prop
  | [], Q => Q
  | p :: ps, Q => @Chk (stdyE ops st N p.1 p.2) ⟨chkAll ops st N ps Q⟩

/-- the least that a round leads to -/
def wFix {A : Type} (F : (A → H → Prop) → A → H → Prop) (a : A) (h : H) : Prop := ∀ P : A → H → Prop, (∀ a h, F P a h → P a h) → P a h

def Qx (g : E → H → Prop) (Q : X → E → H → Prop) : X → E → H → Prop
  | .normal => g
  | x => Q x
def Qb (id : Nat) (Q : X → E → H → Prop) : X → E → H → Prop
  | .exit i => bif Nat.beq i id then Q .normal else Q (.exit i)
  | x => Q x

def den : IC → (X → E → H → Prop) → E → H → Prop
  | .skip, Q => Q .normal
  | .region ops, Q => denOps IP ops (Q .normal)
  | .draw ops ps, Q => match ps with
    | [] => denOps IP ops (Q .normal)
    | p :: ps => denT2 IP ops (fun st e h => chkAll ops ((e, h) :: st) ops.length (p :: ps) (Q .normal e h)) []
  | .seq a b, Q => den a (Qx (den b Q) Q)
  | .cond c a b, Q => fun e h => @Sel (oE e c) ⟨den a Q e h⟩ ⟨den b Q e h⟩
  | .block id c, Q => den c (Qb id Q)
  | .loop c, Q => wFix fun g => den c (Qx g Q)
  | .exit id, Q => Q (.exit id)
  | .ret, Q => Q .ret

def tupV : List V → V
  | [v] => v
  | vs => .tup vs
def denRes : List RV → (List V → Prop) → E → H → Prop
  | [], K, _, _ => K []
  | r :: l, K, e, h => match r with
    | .t n => denRes l (fun vs => K (e n :: vs)) e h
    | .c n agg sz => @Bnd V (vLd h agg sz (e n)) ⟨fun v => denRes l (fun vs => K (v :: vs)) e h⟩
def Qr (rs : List RV) (q : V → H → Prop) : X → E → H → Prop
  | .exit _ => fun _ _ => False
  | _ => fun e h => denRes rs (fun vs => q (tupV vs) h) e h

/-! ### temporaries that there are -/
def dOK (n : Nat) : Option Nat → Bool
  | some d => Nat.blt d n
  | none => true
def opsOK (n : Nat) (l : List IOp) : Bool := l.all fun o => dOK n o.dst
def IC.ok (n : Nat) : IC → Bool
  | .region ops => opsOK n ops
  | .draw ops ps => opsOK n ops && ps.all fun p => Nat.blt p.1 ops.length && Nat.blt p.2 ops.length
  | .seq a b => a.ok n && b.ok n
  | .cond _ a b => a.ok n && b.ok n
  | .block _ c => c.ok n
  | .loop c => c.ok n
  | _ => true

variable {IP}
theorem env_put {ts : T} {d : Option Nat} {v : V} (hd : dOK ts.length d = true) : envOf (putT ts d v) = updO (envOf ts) d v := by
  cases d with
  | none => rfl
  | some d =>
    have hd' : d < ts.length := by
      simp only [dOK, Nat.blt_eq] at hd; exact hd
    funext k
    simp only [envOf, putT, updO, upd, List.getD_eq_getElem?_getD, List.getElem?_set]
    by_cases hk : d = k
    · subst hk
      simp [hd']
    · have : Nat.beq k d = false := by
        cases hb : Nat.beq k d with
        | false => rfl
        | true => exact absurd (Nat.eq_of_beq_eq_true hb).symm hk
      rw [if_neg hk, this]; rfl
theorem put_len (ts : T) (d : Option Nat) (v : V) : (putT ts d v).length = ts.length := by
  cases d <;> simp [putT]

theorem wF_congr {f : Nat} {a : List V} {h : H} {Q Q' : V → H → Prop} (hq : ∀ v h, Q v h ↔ Q' v h) : Fnc IP f a h Q ↔ @wF IP f a h ⟨Q'⟩ :=
  ⟨fun x => x.mono fun v h q => (hq v h).1 q, fun x => Fnc.mono x fun v h q => (hq v h).2 q⟩

theorem denOp_iff {n : Nat} {d : Option Nat} {op : Op} {ts : T} {h : H} {Q : T → H → Prop} {K : E → H → Prop} (hl : ts.length = n) (hd : dOK n d = true)
    (hQ : ∀ ts h, ts.length = n → (Q ts h ↔ K (envOf ts) h)) : O1 IP op ts h (fun v h' => Q (putT ts d v) h') ↔ denOp IP d op K (envOf ts) h := by
  have hq : ∀ v h', Q (putT ts d v) h' ↔ K (updO (envOf ts) d v) h' := by
    intro v h'
    rw [hQ _ _ (by rw [put_len]; exact hl), env_put (by rw [hl]; exact hd)]
  cases op with
  | pu o =>
    rw [O1_pu]
    have hb : (∃ v, pure1 ts o = some v ∧ Q (putT ts d v) h) ↔ @Bnd V (pureE (envOf ts) o) ⟨fun v => K (updO (envOf ts) d v) h⟩ := by
      rw [pure_env]
      exact ⟨fun ⟨v, e, q⟩ => ⟨v, e, (hq v h).1 q⟩, fun ⟨v, e, q⟩ => ⟨v, e, (hq v h).2 q⟩⟩
    cases o <;> first | exact hb | skip
    rename_i x
    rw [hb]
    exact Bnd_some _ _
  | al o =>
    rw [O1_al, denOp, alloc_env]
    exact ⟨fun ⟨v, h', e, q⟩ => ⟨(v, h'), e, (hq v h').1 q⟩, fun ⟨r, e, q⟩ => ⟨r.1, r.2, e, (hq r.1 r.2).2 q⟩⟩
  | ld agg m a =>
    rw [O1_ld, denOp, ld_env]
    exact ⟨fun ⟨v, e, q⟩ => ⟨v, e, (hq v h).1 q⟩, fun ⟨v, e, q⟩ => ⟨v, e, (hq v h).2 q⟩⟩
  | ef o =>
    have hb : o.calm = true → (O1 IP (.ef o) ts h (fun v h' => Q (putT ts d v) h') ↔ @Bnd (V × H) (effE (envOf ts) h o) ⟨fun r => K (updO (envOf ts) d r.1) r.2⟩) := by
      intro ho
      rw [O1_ef o ho, eff_env ts h o ho]
      exact ⟨fun ⟨v, h', e, q⟩ => ⟨(v, h'), e, (hq v h').1 q⟩, fun ⟨r, e, q⟩ => ⟨r.1, r.2, e, (hq r.1 r.2).2 q⟩⟩
    cases o <;> first | exact hb rfl | skip
    · rename_i f args
      rw [O1_call, denOp, oL_env]
      exact wF_congr hq
    · rename_i x args
      rw [O1_callv, denOp, oL_env, oE_env]
      exact ⟨fun ⟨f, c, e, q⟩ => ⟨f, c, e, (wF_congr hq).1 q⟩, fun ⟨f, c, e, q⟩ => ⟨f, c, e, (wF_congr hq).2 q⟩⟩

theorem denOps_iff {n : Nat} : ∀ (l : List IOp) {ts : T} {h : H} {Q : T → H → Prop} {K : E → H → Prop}, ts.length = n → opsOK n l = true →
    (∀ ts h, ts.length = n → (Q ts h ↔ K (envOf ts) h)) → (Ors IP l ts h Q ↔ denOps IP l K (envOf ts) h)
  | [], ts, h, Q, K, hl, _, hQ => by rw [Ors_nil]; exact hQ ts h hl
  | ⟨d, op, g⟩ :: l, ts, h, Q, K, hl, ho, hQ => by
    simp only [opsOK, List.all_cons, Bool.and_eq_true] at ho
    have ih : ∀ ts h, ts.length = n → (Ors IP l ts h Q ↔ denOps IP l K (envOf ts) h) := fun ts h hl => denOps_iff l hl ho.2 hQ
    cases g with
    | none =>
      rw [Ors_cons]
      exact denOp_iff hl ho.1 ih
    | some g =>
      obtain ⟨t, w⟩ := g
      rw [Ors_guard, wants_grd]
      have h1 := denOp_iff (IP := IP) (op := op) (h := h) hl ho.1 ih
      have h2 := ih (putT ts d undefV) h (by rw [put_len]; exact hl)
      rw [env_put (by rw [hl]; exact ho.1)] at h2
      show _ ↔ @Grd (envOf ts t) w ⟨_⟩ ⟨_⟩
      rw [← propext h1, ← propext h2]
      rfl

def trE (st : List (T × H)) : List (E × H) := st.map fun p => (envOf p.1, p.2)
theorem denT_iff {n : Nat} : ∀ (l : List IOp) {ts : T} {h : H} {acc : List (T × H)} {Q : List (T × H) → T → H → Prop} {K : List (E × H) → E → H → Prop}, ts.length = n → opsOK n l = true →
    (∀ st ts h, ts.length = n → st.length = l.length + 1 → (Q (acc.reverse ++ st) ts h ↔ K (trE (st.reverse ++ acc)) (envOf ts) h)) →
    (Tc IP l ts h (fun st => Q (acc.reverse ++ st)) ↔ denT IP l K (trE acc) (envOf ts) h)
  | [], ts, h, acc, Q, K, hl, _, hQ => by
    rw [Tc_nil]
    have := hQ [(ts, h)] ts h hl rfl
    rw [this]
    simp [denT, trE]
  | ⟨d, op, g⟩ :: l, ts, h, acc, Q, K, hl, ho, hQ => by
    simp only [opsOK, List.all_cons, Bool.and_eq_true] at ho
    have ih : ∀ ts' h', ts'.length = n → (Tc IP l ts' h' (fun st => Q (acc.reverse ++ (ts, h) :: st)) ↔ denT IP l K ((envOf ts, h) :: trE acc) (envOf ts') h') := by
      intro ts' h' hl'
      have := denT_iff l (acc := (ts, h) :: acc) (Q := Q) (K := K) (h := h') hl' ho.2 (by
        intro st ts2 h2 hl2 hs
        have := hQ ((ts, h) :: st) ts2 h2 hl2 (by simp [hs])
        simp only [List.reverse_cons, List.append_assoc, List.cons_append, List.nil_append] at this ⊢
        exact this)
      simp only [List.reverse_cons, List.append_assoc, List.cons_append, List.nil_append] at this
      exact this
    cases g with
    | none =>
      rw [Tc_cons]
      exact denOp_iff hl ho.1 ih
    | some g =>
      obtain ⟨t, w⟩ := g
      rw [Tc_guard, wants_grd]
      have h1 := denOp_iff (IP := IP) (op := op) (h := h) hl ho.1 ih
      have h2 := ih (putT ts d undefV) h (by rw [put_len]; exact hl)
      rw [env_put (by rw [hl]; exact ho.1)] at h2
      show _ ↔ @Grd (envOf ts t) w ⟨_⟩ ⟨_⟩
      rw [← propext h1, ← propext h2]
      rfl

theorem stAt_trE {st : List (T × H)} {N i : Nat} (hs : st.length = N + 1) (hi : i ≤ N) : ∃ p, st[i]? = some p ∧ stAt (trE st.reverse) N i = (envOf p.1, p.2) := by
  have hlt : i < st.length := by omega
  refine ⟨st[i], List.getElem?_eq_getElem hlt, ?_⟩
  unfold stAt trE
  rw [List.getD_eq_getElem?_getD, List.getElem?_map, List.getElem?_reverse (by omega)]
  have e : st.length - 1 - (N - i) = i := by omega
  rw [e, List.getElem?_eq_getElem hlt]
  rfl
theorem stdyE_eq {ops : List IOp} {st : List (T × H)} {l e : Nat} (hs : st.length = ops.length + 1) (hl : l < ops.length) (he : e < ops.length) : steady ops st l e = stdyE ops (trE st.reverse) ops.length l e := by
  obtain ⟨p, e1, s1⟩ := stAt_trE (i := l) hs (by omega)
  obtain ⟨q, e2, s2⟩ := stAt_trE (i := e) hs (by omega)
  obtain ⟨r, e3, s3⟩ := stAt_trE (i := e + 1) hs (by omega)
  unfold steady stdyE
  rw [e1, e2, e3, s1, s2, s3, List.getElem?_eq_getElem hl]
  obtain ⟨d, op, g⟩ := ops[l]
  cases op with
  | ld agg n a =>
    cases g with
    | none =>
      simp only [wants, oE_env]
      rfl
    | some g =>
      obtain ⟨t, w⟩ := g
      have hw : wants p.1 (some (t, w)) = match envOf p.1 t with | .b x => some (x == w) | _ => some false := by
        simp only [wants, envOf, List.getD_eq_getElem?_getD]
        rcases p.1[t]? with _ | v
        · rfl
        · cases v <;> rfl
      simp only [hw, oE_env, stdyG]
      cases envOf p.1 t <;> first | rfl | skip
      rename_i x
      simp only
      cases hx : x == w <;> first | rfl | (simp only [stdy]; rfl)
  | pu _ => cases g <;> rfl
  | al _ => cases g <;> rfl
  | ef _ => cases g <;> rfl
theorem chkAll_iff {ops : List IOp} {st : List (T × H)} (hs : st.length = ops.length + 1) {A B : Prop} (hab : A ↔ B) : ∀ ps : List (Nat × Nat), (ps.all fun p => Nat.blt p.1 ops.length && Nat.blt p.2 ops.length) = true →
    (((ps.all fun p => steady ops st p.1 p.2) = true ∧ A) ↔ chkAll ops (trE st.reverse) ops.length ps B)
  | [], _ => by simp [chkAll, hab]
  | p :: ps, h => by
    simp only [List.all_cons, Bool.and_eq_true, Nat.blt_eq] at h
    have ih := chkAll_iff hs hab ps (by simpa using h.2)
    rw [chkAll, ← stdyE_eq hs h.1.1 h.1.2]
    unfold Chk
    rw [← propext ih]
    simp [and_assoc]

theorem Cod_mono_iff {c : IC} {ts : T} {h : H} {Q Q' : X → T → H → Prop} (hq : ∀ x ts h, Q x ts h ↔ Q' x ts h) : Cod IP c ts h Q ↔ Cod IP c ts h Q' :=
  ⟨fun x => x.mono fun a b c q => (hq a b c).1 q, fun x => x.mono fun a b c q => (hq a b c).2 q⟩

/-- the number of temporaries stays -/
theorem iop_len {C : Nat → List V → H → Option (V × H)} {o : IOp} {ts ts' : T} {h h' : H} (e : iop C o ts h = some (ts', h')) : ts'.length = ts.length := by
  unfold iop at e
  split at e
  · split at e
    · cases e; exact put_len _ _ _
    · cases e
  · cases e; exact put_len _ _ _
  · cases e
theorem iops_len {C : Nat → List V → H → Option (V × H)} : ∀ {l : List IOp} {ts ts' : T} {h h' : H}, iops C l ts h = some (ts', h') → ts'.length = ts.length
  | [], ts, ts', h, h', e => by simp only [iops] at e; cases e; rfl
  | o :: l, ts, ts', h, h', e => by
    simp only [iops] at e
    split at e
    · rename_i a b ho
      rw [iops_len e, iop_len ho]
    · cases e
theorem runC_len {C : Nat → List V → H → Option (V × H)} {k : Nat} : ∀ {c : IC} {ts ts' : T} {h h' : H} {x : X}, runC C k c ts h = some (x, ts', h') → ts'.length = ts.length
  | .skip, _, _, _, _, _, e => by simp only [runC] at e; cases e; rfl
  | .exit _, _, _, _, _, _, e => by simp only [runC] at e; cases e; rfl
  | .ret, _, _, _, _, _, e => by simp only [runC] at e; cases e; rfl
  | .region ops, ts, ts', h, h', x, e => by
    simp only [runC] at e
    split at e
    · rename_i ho; cases e; exact iops_len ho
    · cases e
  | .draw ops ps, ts, ts', h, h', x, e => by
    simp only [runC] at e
    split at e
    · rename_i ho
      cases e
      unfold idraw at ho
      split at ho
      · exact iops_len ho
      · split at ho
        · split at ho
          · exact iops_len ho
          · cases ho
        · cases ho
    · cases e
  | .seq a b, ts, ts', h, h', x, e => by
    simp only [runC] at e
    cases ha : runC C k a ts h with
    | none => rw [ha] at e; cases e
    | some y =>
      obtain ⟨x1, ts1, h1⟩ := y
      rw [ha] at e
      have := runC_len ha
      cases x1 with
      | normal => rw [runC_len e, this]
      | exit id => cases e; exact this
      | ret => cases e; exact this
  | .cond c a b, ts, ts', h, h', x, e => by
    simp only [runC] at e
    split at e
    · exact runC_len e
    · exact runC_len e
    · cases e
  | .block id c, ts, ts', h, h', x, e => by
    simp only [runC] at e
    cases ha : runC C k c ts h with
    | none => rw [ha] at e; cases e
    | some y =>
      obtain ⟨x1, ts1, h1⟩ := y
      rw [ha] at e
      have := runC_len ha
      cases x1 with
      | normal => cases e; exact this
      | exit id' => simp only at e; split at e <;> cases e <;> exact this
      | ret => cases e; exact this
  | .loop c, ts, ts', h, h', x, e => by
    simp only [runC] at e
    have : ∀ m {ts ts' : T} {h h' : H} {x : X}, loopN (runC C k c) m ts h = some (x, ts', h') → ts'.length = ts.length := by
      intro m
      induction m with
      | zero => intro ts ts' h h' x e; simp [loopN] at e
      | succ m ih =>
        intro ts ts' h h' x e
        simp only [loopN] at e
        cases ha : runC C k c ts h with
        | none => rw [ha] at e; cases e
        | some y =>
          obtain ⟨x1, ts1, h1⟩ := y
          rw [ha] at e
          have := runC_len ha
          cases x1 with
          | normal => rw [ih e, this]
          | exit id => cases e; exact this
          | ret => cases e; exact this
    exact this _ e
theorem Cod_len {c : IC} {ts : T} {h : H} {Q : X → T → H → Prop} (hc : Cod IP c ts h Q) : Cod IP c ts h (fun x ts' h' => ts'.length = ts.length ∧ Q x ts' h') := by
  obtain ⟨k, x, ts', h', e, q⟩ := hc
  exact ⟨k, x, ts', h', e, runC_len e, q⟩
theorem Cod_congr_len {c : IC} {ts : T} {h : H} {Q Q' : X → T → H → Prop} (hq : ∀ x ts' h, ts'.length = ts.length → (Q x ts' h ↔ Q' x ts' h)) : Cod IP c ts h Q ↔ Cod IP c ts h Q' :=
  ⟨fun x => (Cod_len x).mono fun a b c q => (hq a b c q.1).1 q.2, fun x => (Cod_len x).mono fun a b c q => (hq a b c q.1).2 q.2⟩
theorem Tc_len {l : List IOp} {ts : T} {h : H} {Q : List (T × H) → T → H → Prop} (hc : Tc IP l ts h Q) : Tc IP l ts h (fun st ts' h' => st.length = l.length + 1 ∧ Q st ts' h') := by
  obtain ⟨k, st, ts', h', et, e, q⟩ := hc
  refine ⟨k, st, ts', h', et, e, ?_, q⟩
  have : ∀ (l : List IOp) (ts : T) (h : H) (st : List (T × H)), trace (ev IP k) l ts h = some st → st.length = l.length + 1 := by
    intro l
    induction l with
    | nil => intro ts h st e; simp only [trace] at e; cases e; rfl
    | cons o l ih =>
      intro ts h st e
      simp only [trace] at e
      split at e
      · split at e
        · rename_i r hr
          cases e
          simp [ih _ _ _ hr]
        · cases e
      · cases e
  exact this l ts h st et

theorem env_inj {ts ts' : T} (hl : ts.length = ts'.length) (he : envOf ts = envOf ts') : ts = ts' := by
  apply List.ext_getElem hl
  intro i h1 h2
  have := congrFun he i
  simp only [envOf, List.getD_eq_getElem?_getD, List.getElem?_eq_getElem h1, List.getElem?_eq_getElem h2, Option.getD_some] at this
  exact this
theorem den_mono : ∀ (c : IC) {Q Q' : X → E → H → Prop}, (∀ x e h, Q x e h → Q' x e h) → ∀ e h, den IP c Q e h → den IP c Q' e h := by
  have opM : ∀ (d : Option Nat) (op : Op) (K K' : E → H → Prop), (∀ e h, K e h → K' e h) → ∀ e h, denOp IP d op K e h → denOp IP d op K' e h := by
    intro d op K K' hk e h
    cases op with
    | pu o => cases o <;> first | exact hk _ _ | exact fun ⟨v, e, q⟩ => ⟨v, e, hk _ _ q⟩
    | al o => exact fun ⟨v, e, q⟩ => ⟨v, e, hk _ _ q⟩
    | ld agg n a => exact fun ⟨v, e, q⟩ => ⟨v, e, hk _ _ q⟩
    | ef o =>
      cases o <;> first
        | exact fun ⟨v, e, q⟩ => ⟨v, e, hk _ _ q⟩
        | exact fun x => Fnc.mono x fun v h q => hk _ _ q
        | exact fun ⟨f, c, e, q⟩ => ⟨f, c, e, Fnc.mono q fun v h q => hk _ _ q⟩
  have grdM : ∀ (v : V) (w : Bool) (A A' B B' : Prop), (A → A') → (B → B') → @Grd v w ⟨A⟩ ⟨B⟩ → @Grd v w ⟨A'⟩ ⟨B'⟩ := by
    intro v w A A' B B' ha hb
    unfold Grd
    cases v <;> first | exact hb | (simp only; split <;> first | exact ha | exact hb)
  have opsM : ∀ (l : List IOp) (K K' : E → H → Prop), (∀ e h, K e h → K' e h) → ∀ e h, denOps IP l K e h → denOps IP l K' e h := by
    intro l K K' hk
    induction l with
    | nil => exact hk
    | cons o l ih =>
      intro e h
      obtain ⟨d, op, g⟩ := o
      cases g with
      | none => exact opM d op _ _ ih e h
      | some g => exact grdM _ _ _ _ _ _ (opM d op _ _ ih e h) (ih _ _)
  have tM : ∀ (l : List IOp) (K K' : List (E × H) → E → H → Prop), (∀ st e h, K st e h → K' st e h) → ∀ st e h, denT2 IP l K st e h → denT2 IP l K' st e h := by
    intro l K K' hk
    induction l with
    | nil => intro st e h; exact hk _ _ _
    | cons o l ih =>
      intro st e h
      obtain ⟨d, op, g⟩ := o
      cases g with
      | none => exact opM d op _ _ (ih _) e h
      | some g => exact grdM _ _ _ _ _ _ (opM d op _ _ (ih _) e h) (ih _ _ _)
  have cM : ∀ (ops : List IOp) (st : List (E × H)) (N : Nat) (ps : List (Nat × Nat)) (A B : Prop), (A → B) → chkAll ops st N ps A → chkAll ops st N ps B := by
    intro ops st N ps A B hab
    induction ps with
    | nil => exact hab
    | cons p ps ih => exact fun ⟨a, b⟩ => ⟨a, ih b⟩
  intro c
  induction c with
  | skip => intro Q Q' hq e h; exact hq _ _ _
  | exit id => intro Q Q' hq e h; exact hq _ _ _
  | ret => intro Q Q' hq e h; exact hq _ _ _
  | region ops => intro Q Q' hq e h; exact opsM ops _ _ (hq _) e h
  | draw ops ps =>
    intro Q Q' hq e h
    cases ps with
    | nil => exact opsM ops _ _ (hq _) e h
    | cons p ps => exact tM ops _ _ (fun st e h => cM _ _ _ _ _ _ (hq _ _ _)) [] e h
  | seq a b iha ihb =>
    intro Q Q' hq e h
    refine iha (fun x e h => ?_) e h
    cases x with
    | normal => exact ihb hq e h
    | exit id => exact hq _ _ _
    | ret => exact hq _ _ _
  | cond c a b iha ihb =>
    intro Q Q' hq e h
    rintro ⟨x, hx, q⟩
    refine ⟨x, hx, ?_⟩
    cases x
    · simp only [Bool.false_eq_true, if_false] at q ⊢; exact ihb hq e h q
    · simp only [if_true] at q ⊢; exact iha hq e h q
  | block id c ih =>
    intro Q Q' hq e h
    refine ih (fun x e h => ?_) e h
    cases x with
    | normal => exact hq _ _ _
    | exit i =>
      simp only [Qb]
      cases Nat.beq i id
      · exact hq _ _ _
      · exact hq _ _ _
    | ret => exact hq _ _ _
  | loop c ih =>
    intro Q Q' hq e h hw P hp
    refine hw P fun e h q => hp e h (ih (fun x e h => ?_) e h q)
    cases x with
    | normal => exact id
    | exit i => exact hq _ _ _
    | ret => exact hq _ _ _

theorem den_iff {n : Nat} : ∀ (c : IC) {ts : T} {h : H} {Q : X → T → H → Prop} {K : X → E → H → Prop}, ts.length = n → c.ok n = true →
    (∀ x ts h, ts.length = n → (Q x ts h ↔ K x (envOf ts) h)) → (Cod IP c ts h Q ↔ den IP c K (envOf ts) h) := by
  intro c
  induction c with
  | skip => intro ts h Q K hl _ hQ; rw [Cod_skip]; exact hQ _ _ _ hl
  | exit id => intro ts h Q K hl _ hQ; rw [Cod_exit]; exact hQ _ _ _ hl
  | ret => intro ts h Q K hl _ hQ; rw [Cod_ret]; exact hQ _ _ _ hl
  | region ops => intro ts h Q K hl ho hQ; rw [Cod_region]; exact denOps_iff ops hl ho (hQ _)
  | draw ops ps =>
    intro ts h Q K hl ho hQ
    simp only [IC.ok, Bool.and_eq_true] at ho
    cases ps with
    | nil => rw [Cod_draw_nil]; exact denOps_iff ops hl ho.1 (hQ _)
    | cons p ps =>
      rw [Cod_draw]
      have key := denT_iff (IP := IP) ops (acc := []) (h := h) (ts := ts) (n := n)
        (Q := fun st ts' h' => ((p :: ps).all fun p => steady ops st p.1 p.2) = true ∧ Q .normal ts' h')
        (K := fun st e h => chkAll ops st ops.length (p :: ps) (K .normal e h)) hl ho.1 (by
          intro st ts' h' hl' hs
          simp only [List.reverse_nil, List.nil_append, List.append_nil]
          exact chkAll_iff hs (hQ .normal ts' h' hl') (p :: ps) ho.2)
      refine key.trans ?_
      rw [denT2_eq]
      exact Iff.rfl
  | seq a b iha ihb =>
    intro ts h Q K hl ho hQ
    simp only [IC.ok, Bool.and_eq_true] at ho
    rw [Cod_seq]
    refine iha hl ho.1 fun x ts' h' hl' => ?_
    cases x with
    | normal => exact ihb hl' ho.2 hQ
    | exit id => exact hQ _ _ _ hl'
    | ret => exact hQ _ _ _ hl'
  | cond c a b iha ihb =>
    intro ts h Q K hl ho hQ
    simp only [IC.ok, Bool.and_eq_true] at ho
    rw [Cod_cond]
    have h1 := iha (h := h) hl ho.1 hQ
    have h2 := ihb (h := h) hl ho.2 hQ
    show _ ↔ @Sel (oE (envOf ts) c) ⟨_⟩ ⟨_⟩
    rw [oE_env, ← propext h1, ← propext h2]
    rfl
  | block id c ih =>
    intro ts h Q K hl ho hQ
    rw [Cod_block]
    refine ih hl ho fun x ts' h' hl' => ?_
    cases x with
    | normal => exact hQ _ _ _ hl'
    | exit i =>
      simp only [Qb]
      by_cases hi : i = id
      · subst hi
        simp only [if_true, Nat.beq_refl, cond_true]
        exact hQ _ _ _ hl'
      · have : Nat.beq i id = false := by
          cases hb : Nat.beq i id with
          | false => rfl
          | true => exact absurd (Nat.eq_of_beq_eq_true hb) hi
        simp only [hi, if_false, this, cond_false]
        exact hQ _ _ _ hl'
    | ret => exact hQ _ _ _ hl'
  | loop c ih =>
    intro ts h Q K hl ho hQ
    constructor
    · rintro ⟨k, x, ts', h', e, q⟩
      simp only [runC] at e
      intro P hp
      have main : ∀ m (ts : T) (h : H), ts.length = n → loopN (runC (ev IP k) k c) m ts h = some (x, ts', h') → P (envOf ts) h := by
        intro m
        induction m with
        | zero => intro ts h _ e; simp [loopN] at e
        | succ m im =>
          intro ts h hl e
          simp only [loopN] at e
          refine hp _ _ ((ih (Q := fun x1 ts1 h1 => match x1 with | .normal => P (envOf ts1) h1 | x => Q x ts1 h1) hl ho ?_).1 ?_)
          · intro x1 ts1 h1 hl1
            cases x1 with
            | normal => exact Iff.rfl
            | exit id => exact hQ _ _ _ hl1
            | ret => exact hQ _ _ _ hl1
          · cases hr : runC (ev IP k) k c ts h with
            | none => rw [hr] at e; cases e
            | some y =>
              obtain ⟨x1, ts1, h1⟩ := y
              rw [hr] at e
              refine ⟨k, x1, ts1, h1, hr, ?_⟩
              cases x1 with
              | normal => exact im ts1 h1 (by rw [runC_len hr, hl]) e
              | exit id => cases e; exact q
              | ret => cases e; exact q
      exact main k ts h hl e
    · intro hw
      refine hw (fun e h => ∀ ts, ts.length = n → envOf ts = e → Cod IP (.loop c) ts h Q) ?_ ts hl rfl
      rintro e h hd ts hl rfl
      refine Cod_loop c ts h Q ((ih (Q := fun x ts1 h1 => match x with | .normal => Cod IP (.loop c) ts1 h1 Q | x => Q x ts1 h1) hl ho ?_).2
        (den_mono c (Q := Qx (fun e h => ∀ ts, ts.length = n → envOf ts = e → Cod IP (.loop c) ts h Q) K) (Q' := fun x e h => match x with
          | .normal => ∀ ts, ts.length = n → envOf ts = e → Cod IP (.loop c) ts h Q
          | x => K x e h) (fun x e h q => (by cases x <;> exact q)) _ _ hd))
      intro x ts1 h1 hl1
      cases x with
      | normal => exact ⟨fun q ts2 hl2 he => (env_inj (hl2.trans hl1.symm) he) ▸ q, fun q => q ts1 hl1 rfl⟩
      | exit id => exact hQ _ _ _ hl1
      | ret => exact hQ _ _ _ hl1

/-! ### a statement's text, put together -/
theorem seq_eq {a b : IC} {Q : X → E → H → Prop} {B A : E → H → Prop} (pb : den IP b Q = B) (pa : den IP a (Qx B Q) = A) : den IP (.seq a b) Q = A := by
  subst pb; exact pa
theorem cond_eq {c : Opd} {a b : IC} {Q : X → E → H → Prop} {B A : E → H → Prop} (pa : den IP a Q = A) (pb : den IP b Q = B) : den IP (.cond c a b) Q = fun e h => @Sel (oE e c) ⟨A e h⟩ ⟨B e h⟩ := by
  subst pa; subst pb; rfl
theorem block_eq {id : Nat} {c : IC} {Q : X → E → H → Prop} {A : E → H → Prop} (p : den IP c (Qb id Q) = A) : den IP (.block id c) Q = A := p
theorem region_eq {ops : List IOp} {Q : X → E → H → Prop} {A : E → H → Prop} (p : denOps IP ops (Q .normal) = A) : den IP (.region ops) Q = A := p
theorem draw0_eq {ops : List IOp} {Q : X → E → H → Prop} {A : E → H → Prop} (p : denOps IP ops (Q .normal) = A) : den IP (.draw ops []) Q = A := p
theorem draw_eq {ops : List IOp} {p : Nat × Nat} {ps : List (Nat × Nat)} {Q : X → E → H → Prop} {A : List (E × H) → E → H → Prop} (pf : denT2 IP ops (fun st e h => chkAll ops ((e, h) :: st) ops.length (p :: ps) (Q .normal e h)) = A) :
    den IP (.draw ops (p :: ps)) Q = A [] := by
  subst pf; rfl
theorem denOps_app : ∀ (a b : List IOp) (Q : E → H → Prop), denOps IP (a ++ b) Q = denOps IP a (denOps IP b Q)
  | [], _, _ => rfl
  | ⟨d, op, g⟩ :: a, b, Q => by
    cases g with
    | none => show denOp IP d op (denOps IP (a ++ b) Q) = _; rw [denOps_app a b]; rfl
    | some g => show (fun e h => @Grd (e g.1) g.2 ⟨denOp IP d op (denOps IP (a ++ b) Q) e h⟩ ⟨denOps IP (a ++ b) Q (updO e d undefV) h⟩) = _; rw [denOps_app a b]; rfl
theorem denT2_app : ∀ (a b : List IOp) (Q : List (E × H) → E → H → Prop) (st : List (E × H)), denT2 IP (a ++ b) Q st = denT2 IP a (denT2 IP b Q) st
  | [], _, _, _ => rfl
  | ⟨d, op, g⟩ :: a, b, Q, st => by
    cases g with
    | none =>
      funext e h
      show denOp IP d op (denT2 IP (a ++ b) Q ((e, h) :: st)) e h = _; rw [denT2_app a b]; rfl
    | some g =>
      funext e h
      show @Grd (e g.1) g.2 ⟨denOp IP d op (denT2 IP (a ++ b) Q ((e, h) :: st)) e h⟩ ⟨denT2 IP (a ++ b) Q ((e, h) :: st) (updO e d undefV) h⟩ = _; rw [denT2_app a b]; rfl
theorem split_eq (n : Nat) {l : List IOp} {Q S : E → H → Prop} {A : E → H → Prop} (p : denOps IP (l.drop n) Q = S) (pa : denOps IP (l.take n) S = A) : denOps IP l Q = A := by
  subst p; rw [← denOps_app, List.take_append_drop] at pa; exact pa
theorem tsplit_eq (n : Nat) {l : List IOp} {Q S : List (E × H) → E → H → Prop} {A : List (E × H) → E → H → Prop} (p : denT2 IP (l.drop n) Q = S) (pa : denT2 IP (l.take n) S = A) : denT2 IP l Q = A := by
  subst p; subst pa
  funext st
  rw [← denT2_app, List.take_append_drop]
def ungrd : List IOp → List IOp
  | [] => []
  | o :: l => ⟨o.dst, o.op, none⟩ :: ungrd l
def undefs : List IOp → E → E
  | [], e => e
  | o :: l, e => undefs l (updO e o.dst undefV)
def unst : List IOp → E → H → List (E × H) → List (E × H)
  | [], _, _, st => st
  | o :: l, e, h, st => unst l (updO e o.dst undefV) h ((e, h) :: st)
def isGrp (t : Nat) (w : Bool) : List IOp → Bool
  | [] => true
  | o :: l => (match o.guard with
    | some g => Nat.beq g.1 t && (g.2 == w)
    | none => false) && (match o.dst with
    | some d => !Nat.beq d t
    | none => true) && isGrp t w l
theorem upd_ne {e : E} {d t : Nat} {v : V} (h : (!Nat.beq d t) = true) : upd e d v t = e t := by
  unfold upd
  cases hb : Nat.beq t d with
  | false => rfl
  | true =>
    have := Nat.eq_of_beq_eq_true hb
    subst this
    simp at h
theorem grd_grd {v : V} {w : Bool} {A A' B B' : Prop} (ha : v = .b w → (A ↔ A')) (hb : v ≠ .b w → (B ↔ B')) : @Grd v w ⟨A⟩ ⟨B⟩ = @Grd v w ⟨A'⟩ ⟨B'⟩ := by
  apply propext
  unfold Grd
  cases v with
  | b x =>
    simp only
    by_cases hx : x = w
    · subst hx; simp only [if_true]; exact ha rfl
    · simp only [hx, if_false]; exact hb (by intro h; cases h; exact hx rfl)
  | _ => exact hb (by intro h; cases h)
theorem grd_no {v : V} {w : Bool} {A B : Prop} (hv : v ≠ .b w) : @Grd v w ⟨A⟩ ⟨B⟩ ↔ B := by
  unfold Grd
  cases v with
  | b x =>
    simp only
    rw [if_neg (by intro h; exact hv (by rw [h]))]
  | _ => exact Iff.rfl
theorem grd_yes {w : Bool} {A B : Prop} : @Grd (.b w) w ⟨A⟩ ⟨B⟩ ↔ A := by
  unfold Grd; simp
theorem denOp_congr {d : Option Nat} {op : Op} {K K' : E → H → Prop} {t : Nat} (hd : (match d with | some d => !Nat.beq d t | none => true) = true) {e : E} {h : H} (hk : ∀ e' h, e' t = e t → (K e' h ↔ K' e' h)) :
    denOp IP d op K e h ↔ denOp IP d op K' e h := by
  have hk' : ∀ v h, K (updO e d v) h ↔ K' (updO e d v) h := by
    intro v h
    apply hk
    cases d with
    | none => rfl
    | some d => exact upd_ne hd
  cases op with
  | pu o => cases o <;> first | exact hk' _ _ | exact ⟨fun ⟨v, e, q⟩ => ⟨v, e, (hk' _ _).1 q⟩, fun ⟨v, e, q⟩ => ⟨v, e, (hk' _ _).2 q⟩⟩
  | al o => exact ⟨fun ⟨v, e, q⟩ => ⟨v, e, (hk' _ _).1 q⟩, fun ⟨v, e, q⟩ => ⟨v, e, (hk' _ _).2 q⟩⟩
  | ld agg n a => exact ⟨fun ⟨v, e, q⟩ => ⟨v, e, (hk' _ _).1 q⟩, fun ⟨v, e, q⟩ => ⟨v, e, (hk' _ _).2 q⟩⟩
  | ef o =>
    cases o <;> first
      | exact ⟨fun ⟨v, e, q⟩ => ⟨v, e, (hk' _ _).1 q⟩, fun ⟨v, e, q⟩ => ⟨v, e, (hk' _ _).2 q⟩⟩
      | exact ⟨fun x => Fnc.mono x fun v h q => (hk' _ _).1 q, fun x => Fnc.mono x fun v h q => (hk' _ _).2 q⟩
      | exact ⟨fun ⟨f, c, e, q⟩ => ⟨f, c, e, Fnc.mono q fun v h q => (hk' _ _).1 q⟩, fun ⟨f, c, e, q⟩ => ⟨f, c, e, Fnc.mono q fun v h q => (hk' _ _).2 q⟩⟩
theorem tgrp1 {t : Nat} {w : Bool} {Q : List (E × H) → E → H → Prop} : ∀ (l : List IOp), isGrp t w l = true → ∀ (st : List (E × H)) (e : E) (h : H),
    (e t = .b w → (denT2 IP l Q st e h ↔ denT2 IP (ungrd l) Q st e h)) ∧ (e t ≠ .b w → (denT2 IP l Q st e h ↔ Q (unst l e h st) (undefs l e) h))
  | [], _, st, e, h => ⟨fun _ => Iff.rfl, fun _ => Iff.rfl⟩
  | ⟨d, op, g⟩ :: l, hg, st, e, h => by
    simp only [isGrp, Bool.and_eq_true] at hg
    obtain ⟨⟨h1, h2⟩, h3⟩ := hg
    cases g with
    | none => cases h1
    | some g =>
      obtain ⟨t', w'⟩ := g
      simp only [Bool.and_eq_true, beq_iff_eq] at h1
      have e1 := Nat.eq_of_beq_eq_true h1.1
      obtain rfl := e1
      obtain rfl := h1.2
      refine ⟨fun hv => ?_, fun hv => ?_⟩
      · show @Grd (e t') w' ⟨_⟩ ⟨_⟩ ↔ _
        rw [hv, grd_yes]
        exact denOp_congr h2 fun e' h' he => (tgrp1 l h3 _ e' h').1 (he.trans hv)
      · show @Grd (e t') w' ⟨_⟩ ⟨_⟩ ↔ _
        rw [grd_no hv]
        have hu : updO e d undefV t' = e t' := by
          cases d with
          | none => rfl
          | some d => exact upd_ne h2
        exact (tgrp1 l h3 ((e, h) :: st) (updO e d undefV) h).2 (by rw [hu]; exact hv)
theorem ogrp1 {t : Nat} {w : Bool} {Q : E → H → Prop} : ∀ (l : List IOp), isGrp t w l = true → ∀ (e : E) (h : H),
    (e t = .b w → (denOps IP l Q e h ↔ denOps IP (ungrd l) Q e h)) ∧ (e t ≠ .b w → (denOps IP l Q e h ↔ Q (undefs l e) h))
  | [], _, e, h => ⟨fun _ => Iff.rfl, fun _ => Iff.rfl⟩
  | ⟨d, op, g⟩ :: l, hg, e, h => by
    simp only [isGrp, Bool.and_eq_true] at hg
    obtain ⟨⟨h1, h2⟩, h3⟩ := hg
    cases g with
    | none => cases h1
    | some g =>
      obtain ⟨t', w'⟩ := g
      simp only [Bool.and_eq_true, beq_iff_eq] at h1
      have e1 := Nat.eq_of_beq_eq_true h1.1
      obtain rfl := e1
      obtain rfl := h1.2
      refine ⟨fun hv => ?_, fun hv => ?_⟩
      · show @Grd (e t') w' ⟨_⟩ ⟨_⟩ ↔ _
        rw [hv, grd_yes]
        exact denOp_congr h2 fun e' h' he => (ogrp1 l h3 e' h').1 (he.trans hv)
      · show @Grd (e t') w' ⟨_⟩ ⟨_⟩ ↔ _
        rw [grd_no hv]
        have hu : updO e d undefV t' = e t' := by
          cases d with
          | none => rfl
          | some d => exact upd_ne h2
        exact (ogrp1 l h3 (updO e d undefV) h).2 (by rw [hu]; exact hv)
/-- a row of operations that hang on the same bool, then the rest -/
theorem grp_eq (n t : Nat) (w : Bool) {l : List IOp} {Q S A : E → H → Prop} (hg : isGrp t w (l.take n) = true) (p : denOps IP (l.drop n) Q = S) (pa : denOps IP (ungrd (l.take n)) S = A) :
    denOps IP l Q = fun e h => @Grd (e t) w ⟨A e h⟩ ⟨S (undefs (l.take n) e) h⟩ := by
  subst p; subst pa
  funext e h
  have e1 : denOps IP l Q = denOps IP (l.take n) (denOps IP (l.drop n) Q) := by rw [← denOps_app, List.take_append_drop]
  rw [e1]
  apply propext
  by_cases hv : e t = .b w
  · rw [(ogrp1 (l.take n) hg e h).1 hv, hv, grd_yes]
  · rw [(ogrp1 (l.take n) hg e h).2 hv, grd_no hv]
theorem tgrp_eq (n t : Nat) (w : Bool) {l : List IOp} {Q S A : List (E × H) → E → H → Prop} (hg : isGrp t w (l.take n) = true) (p : denT2 IP (l.drop n) Q = S) (pa : denT2 IP (ungrd (l.take n)) S = A) :
    denT2 IP l Q = fun st e h => @Grd (e t) w ⟨A st e h⟩ ⟨S (unst (l.take n) e h st) (undefs (l.take n) e) h⟩ := by
  subst p; subst pa
  funext st e h
  have e1 : denT2 IP l Q st = denT2 IP (l.take n) (denT2 IP (l.drop n) Q) st := by rw [← denT2_app, List.take_append_drop]
  rw [e1]
  apply propext
  by_cases hv : e t = .b w
  · rw [(tgrp1 (l.take n) hg st e h).1 hv, hv, grd_yes]
  · rw [(tgrp1 (l.take n) hg st e h).2 hv, grd_no hv]

theorem app_eq {pre rest : List IOp} {Q S A : E → H → Prop} (p : denOps IP rest Q = S) (pa : denOps IP pre S = A) : denOps IP (pre ++ rest) Q = A := by
  subst p; rw [denOps_app]; exact pa
theorem tapp_eq {pre rest : List IOp} {Q S A : List (E × H) → E → H → Prop} (p : denT2 IP rest Q = S) (pa : denT2 IP pre S = A) : denT2 IP (pre ++ rest) Q = A := by
  subst p; subst pa; funext st; rw [denT2_app]
theorem grp_eq2 (t : Nat) (w : Bool) {g rest : List IOp} {Q S A : E → H → Prop} (hg : isGrp t w g = true) (p : denOps IP rest Q = S) (pa : denOps IP (ungrd g) S = A) :
    denOps IP (g ++ rest) Q = fun e h => @Grd (e t) w ⟨A e h⟩ ⟨S (undefs g e) h⟩ := by
  subst p; subst pa
  funext e h
  rw [denOps_app]
  apply propext
  by_cases hv : e t = .b w
  · rw [(ogrp1 g hg e h).1 hv, hv, grd_yes]
  · rw [(ogrp1 g hg e h).2 hv, grd_no hv]
theorem tgrp_eq2 (t : Nat) (w : Bool) {g rest : List IOp} {Q S A : List (E × H) → E → H → Prop} (hg : isGrp t w g = true) (p : denT2 IP rest Q = S) (pa : denT2 IP (ungrd g) S = A) :
    denT2 IP (g ++ rest) Q = fun st e h => @Grd (e t) w ⟨A st e h⟩ ⟨S (unst g e h st) (undefs g e) h⟩ := by
  subst p; subst pa
  funext st e h
  rw [denT2_app]
  apply propext
  by_cases hv : e t = .b w
  · rw [(tgrp1 g hg st e h).1 hv, hv, grd_yes]
  · rw [(tgrp1 g hg st e h).2 hv, grd_no hv]

/-! ### loops -/
def Mono {A : Type} (G : (A → H → Prop) → A → H → Prop) : Prop := ∀ g g' : A → H → Prop, (∀ a h, g a h → g' a h) → ∀ a h, G g a h → G g' a h
theorem wFix_in {A : Type} {G : (A → H → Prop) → A → H → Prop} (hm : Mono G) (a : A) (h : H) (x : G (wFix G) a h) : wFix G a h :=
  fun P hp => hp a h (hm _ _ (fun _ _ w => w P hp) a h x)
theorem wFix_unroll {A : Type} {G : (A → H → Prop) → A → H → Prop} (hm : Mono G) (a : A) (h : H) : wFix G a h ↔ G (wFix G) a h :=
  ⟨fun w => w (G (wFix G)) (fun a h x => hm _ _ (fun _ _ y => wFix_in hm _ _ y) a h x), wFix_in hm a h⟩
theorem wFix_inv {A : Type} {G : (A → H → Prop) → A → H → Prop} (hm : Mono G) (I : Nat → A → H → Prop) (step : ∀ n a h, I n a h → G (fun a h => ∃ m, m < n ∧ I m a h) a h) (n : Nat) (a : A) (h : H) (hi : I n a h) : wFix G a h := by
  induction n using Nat.strongRecOn generalizing a h with
  | _ n ih => exact wFix_in hm a h (hm _ _ (fun a h ⟨m, hlt, hi⟩ => ih m hlt a h hi) a h (step n a h hi))
theorem wFix_nat {A : Type} {p : E → A} {F : (E → H → Prop) → E → H → Prop} {G : (A → H → Prop) → A → H → Prop} (hm : Mono F) (hF : ∀ g : A → H → Prop, F (fun e h => g (p e) h) = fun e h => G g (p e) h) :
    wFix F = fun e h => wFix G (p e) h := by
  funext e h
  apply propext
  constructor
  · intro w P hp
    refine w (fun e h => P (p e) h) fun e h x => hp _ _ ?_
    rw [hF] at x; exact x
  · intro w
    refine w (fun a h => ∀ e, p e = a → wFix F e h) (fun a h x e he => ?_) e rfl
    subst he
    have x' : F (fun e h => ∀ e', p e' = p e → wFix F e' h) e h := by
      have := congrFun (congrFun (hF (fun a h => ∀ e, p e = a → wFix F e h)) e) h
      rw [this]; exact x
    exact wFix_in hm e h (hm _ _ (fun e h q => q e rfl) e h x')
theorem loop_mono {c : IC} {Q : X → E → H → Prop} : Mono (fun g => den IP c (Qx g Q)) := by
  intro g g' hg a h x
  refine den_mono c (fun x e h q => ?_) a h x
  cases x with
  | normal => exact hg _ _ q
  | exit id => exact q
  | ret => exact q
theorem loop_eq {A : Type} (p : E → A) (G : (A → H → Prop) → A → H → Prop) {c : IC} {Q : X → E → H → Prop} (hF : ∀ g : A → H → Prop, den IP c (Qx (fun e h => g (p e) h) Q) = fun e h => G g (p e) h) :
    den IP (.loop c) Q = fun e h => wFix G (p e) h := wFix_nat loop_mono hF
theorem mono_of {A : Type} {p : E → A} (s : A → E) (hs : ∀ a, p (s a) = a) {G : (A → H → Prop) → A → H → Prop} {c : IC} {Q : X → E → H → Prop} (hF : ∀ g : A → H → Prop, den IP c (Qx (fun e h => g (p e) h) Q) = fun e h => G g (p e) h) : Mono G := by
  intro g g' hg a h x
  have e1 := congrFun (congrFun (hF g) (s a)) h
  have e2 := congrFun (congrFun (hF g') (s a)) h
  simp only [hs] at e1 e2
  rw [← e1] at x
  rw [← e2]
  exact loop_mono _ _ (fun e h q => hg _ _ q) _ _ x

theorem resE_iff {ts : T} {h : H} {K : List V → Prop} : ∀ (rs : List RV), denRes rs K (envOf ts) h ↔ ∃ vs, resL ts h rs = some vs ∧ K vs := by
  intro rs
  induction rs generalizing K with
  | nil => exact ⟨fun k => ⟨[], rfl, k⟩, fun ⟨vs, e, k⟩ => (by simp only [resL, Option.some.injEq] at e; subst e; exact k)⟩
  | cons r l ih =>
    cases r with
    | t n =>
      show denRes l _ _ _ ↔ _
      rw [ih]
      simp only [resL, resV]
      constructor
      · rintro ⟨vs, e, k⟩; rw [e]; exact ⟨_, rfl, k⟩
      · rintro ⟨vs, e, k⟩
        cases hr : resL ts h l with
        | none => rw [hr] at e; cases e
        | some r => rw [hr] at e; cases e; exact ⟨_, rfl, k⟩
    | c n agg sz =>
      show (∃ v, _ = some v ∧ denRes l _ _ _) ↔ _
      simp only [resL, resV]
      have e0 : vLd h agg sz (envOf ts n) = load1 ts h agg sz (.t n) := ld_env ts h agg sz (.t n)
      rw [e0]
      constructor
      · rintro ⟨v, e, k⟩
        rw [ih] at k
        obtain ⟨vs, e', k⟩ := k
        rw [e, e']; exact ⟨_, rfl, k⟩
      · rintro ⟨vs, e, k⟩
        cases hv : load1 ts h agg sz (.t n) with
        | none => rw [hv] at e; cases e
        | some v =>
          rw [hv] at e
          cases hr : resL ts h l with
          | none => rw [hr] at e; cases e
          | some r =>
            rw [hr] at e; cases e
            exact ⟨v, rfl, ih.2 ⟨r, hr, k⟩⟩
theorem Fnc_den {f : Nat} {fn : IFn} (hf : IP f = some fn) (hok : fn.body.ok fn.ntmps = true) {a : List V} (ha : Nat.ble a.length fn.ntmps = true) (h : H) (Q : V → H → Prop) :
    @wF IP f a h ⟨Q⟩ ↔ den IP fn.body (Qr fn.results Q) (envOf a) h := by
  have hle : a.length ≤ fn.ntmps := Nat.le_of_ble_eq_true ha
  have e : envOf (a ++ List.replicate (fn.ntmps - a.length) undefV) = envOf a := by
    funext k
    simp only [envOf, List.getD_eq_getElem?_getD, List.getElem?_append, List.getElem?_replicate]
    split
    · rfl
    · rename_i hk
      rw [List.getElem?_eq_none (l := a) (by omega)]
      split <;> rfl
  rw [← e]
  refine (Fnc_iff hf a h Q).trans (den_iff fn.body (by simp; omega) hok ?_)
  intro x ts h _
  have key : (match resOf ts h fn.results with | some v => Q v h | none => False) ↔ denRes fn.results (fun vs => Q (tupV vs) h) (envOf ts) h := by
    rw [resE_iff]
    unfold resOf
    constructor
    · intro q
      split at q
      · rename_i v hv
        split at hv
        · rename_i u hu; cases hv; exact ⟨_, hu, q⟩
        · rename_i vs hne hu
          cases hv
          refine ⟨_, hu, ?_⟩
          have : tupV vs = .tup vs := by
            rcases vs with _ | ⟨a, _ | ⟨b, l⟩⟩
            · rfl
            · exact absurd rfl (hne a)
            · rfl
          rw [this]; exact q
        · cases hv
      · exact q.elim
    · rintro ⟨vs, e, k⟩
      rw [e]
      rcases vs with _ | ⟨a, _ | ⟨b, l⟩⟩ <;> exact k
  cases x with
  | normal => exact key
  | exit id => exact Iff.rfl
  | ret => exact key
end

/-! ### rules for stepping -/
theorem Hid_un {α : Type} (a : α) : @Hid.un α ⟨a⟩ = a := rfl
theorem vPick_t (a b : V) : vPick (.b true) a b = some a := rfl
theorem vPick_f (a b : V) : vPick (.b false) a b = some b := rfl
theorem vEqz_of {neg : Bool} {k : EK} {x y : V} : vEqz neg k x y = match eqz k x y with
    | some r => some (.b (if neg then !r else r))
    | none => none := rfl
theorem vCvi_i (k k' : IntKind) (n : Int) : vCvi k (.i k' n) = some (.i k (k.wrap n)) := rfl
theorem vFa_p (off id o : Nat) : vFa off (.p (some (id, o))) = some (.p (some (id, o + off))) := rfl
theorem vNilc_p (a : Nat × Nat) : vNilc (.p (some a)) = some (.p (some a)) := rfl
theorem vNilc_f (f : Nat) (c : List V) : vNilc (.fn f c) = some (.fn f c) := rfl
theorem vFld_a (agg : Bool) (off n : Nat) (l : List V) : vFld agg off n (.agg l) = part agg l off n := rfl
theorem vIxa_a (agg : Bool) (n len : Nat) (l : List V) (k : IntKind) (j : Int) : vIxa agg n len (.agg l) (.i k j) = if 0 ≤ j ∧ j < (len : Int) then part agg l (j.toNat * n) n else none := rfl
theorem vIa_s (esz id off len : Nat) (c : Cap) (k : IntKind) (j : Int) : vIa esz (.sl id off len c) (.i k j) = if 0 ≤ j ∧ j < (len : Int) then some (.p (some (id, off + j.toNat * esz))) else none := rfl
theorem vIaa_p (esz len id off : Nat) (k : IntKind) (j : Int) : vIaa esz len (.p (some (id, off))) (.i k j) = if 0 ≤ j ∧ j < (len : Int) then some (.p (some (id, off + j.toNat * esz))) else none := rfl
theorem vExt_t (l : List V) (i : Nat) : vExt (.tup l) i = l[i]? := rfl
theorem vLens_s (id off len : Nat) (c : Cap) : vLens (.sl id off len c) = some (.i .i64 len) := rfl
theorem vCaps_s (id off len c : Nat) : vCaps (.sl id off len (.ex c)) = some (.i .i64 c) := rfl
theorem vCaps_n : vCaps .nsl = some (.i .i64 0) := rfl
theorem vCaps_e : vCaps (.es true) = some (.i .i64 0) := rfl
theorem vLens_n : vLens .nsl = some (.i .i64 0) := rfl
theorem vLens_e (z : Bool) : vLens (.es z) = some (.i .i64 0) := rfl
theorem vLens_so (a b c : Nat) : vLens (.so a b c) = some (.i .i64 0) := rfl
theorem vLent_s (s : ByteArray) : vLent (.s s) = some (.i .i64 s.size) := rfl
theorem vLdA_p (h : H) (n id off : Nat) : vLdA h n (.p (some (id, off))) = match h.load id off n with
    | some l => some (.agg l)
    | none => none := rfl
theorem vLd1_p (h : H) (id off : Nat) : vLd1 h (.p (some (id, off))) = h.at id off := rfl
theorem vStore_p (h : H) (n id off : Nat) (x : V) : vStore h n (.p (some (id, off))) x = if x.cells.length = n then match h.store id off x.cells with
      | some h' => some (undefV, h')
      | none => none
    else none := rfl
theorem vMake_i {bytes : Nat} {z : List V} {k : IntKind} {n : Int} {h : H} (h0 : 0 ≤ n) (h1 : n.toNat * bytes ≤ 140737488355328) (h2 : n ≤ 9223372036854775807) :
    vMake bytes z (.i k n) h = some (.sl h.nx 0 n.toNat (.ex n.toNat), h.new { ro := false, c := zrep z n.toNat }) := by
  unfold vMake
  simp only
  rw [if_pos ⟨h0, h1, h2⟩]
theorem stdy_p (agg : Bool) (n id off : Nat) (h h' : H) : stdy agg n (.p (some (id, off))) h h' = if h.nx ≤ id then true else
    match h.load id off (if agg then n else 1), h'.load id off (if agg then n else 1) with
    | some x, some y => V.sames x y
    | _, _ => false := rfl
theorem stdyG_b (x w b : Bool) : stdyG (.b x) w b = if x == w then b else true := rfl
theorem stdyG_u (w b : Bool) : stdyG undefV w b = true := rfl
/-- rows written out -/
theorem cut_S (x : V) (c : List V) (off n : Nat) : cut (x :: c) (off + 1) n = cut c off n := by
  unfold cut
  simp only [List.length_cons, List.drop_succ_cons]
  by_cases h : off + n ≤ c.length
  · rw [if_pos h, if_pos (by omega)]
  · rw [if_neg h, if_neg (by omega)]
theorem cut_Z (c : List V) : cut c 0 0 = some [] := by
  unfold cut; simp
theorem cut_C (x : V) (c : List V) (n : Nat) : cut (x :: c) 0 (n + 1) = match cut c 0 n with
    | some l => some (x :: l)
    | none => none := by
  unfold cut
  simp only [List.length_cons, List.drop_zero, List.take_succ_cons]
  by_cases h : 0 + n ≤ c.length
  · rw [if_pos h, if_pos (by omega)]
  · rw [if_neg h, if_neg (by omega)]
theorem cut_all {c : List V} {n : Nat} (h : c.length = n) : cut c 0 n = some c := by
  unfold cut
  subst h
  simp
theorem lay_S (x : V) (c : List V) (off : Nat) (vs : List V) : lay (x :: c) (off + 1) vs = x :: lay c off vs := by
  unfold lay
  simp only [List.take_succ_cons, List.cons_append]
  congr 2
  rw [show off + 1 + vs.length = (off + vs.length) + 1 by omega, List.drop_succ_cons]
theorem lay_Z (c : List V) : lay c 0 [] = c := by simp [lay]
theorem lay_C (x : V) (c : List V) (v : V) (vs : List V) : lay (x :: c) 0 (v :: vs) = v :: lay c 0 vs := by
  unfold lay
  simp only [List.take_zero, List.nil_append, List.length_cons, Nat.zero_add, List.cons_append, List.drop_succ_cons]
theorem H.store_of (h : H) (id off : Nat) (xs : List V) : h.store id off xs = match h.get id with
  | some o => if o.ro = false ∧ off + xs.length ≤ o.c.length ∧ xs.all V.one = true then some (h.put id (some { o with c := lay o.c off xs })) else none
  | none => none := rfl
/-! ### cells of values -/
theorem cells_i (k : IntKind) (n : Int) : V.cells (.i k n) = [.i k n] := rfl
theorem one_i (k : IntKind) (n : Int) : V.one (.i k n) = true := rfl
theorem cells_b (b : Bool) : V.cells (.b b) = [.b b] := rfl
theorem one_b (b : Bool) : V.one (.b b) = true := rfl
theorem cells_s (s : ByteArray) : V.cells (.s s) = [.s s] := rfl
theorem one_s (s : ByteArray) : V.one (.s s) = true := rfl
theorem cells_p (a : Option (Nat × Nat)) : V.cells (.p a) = [.p a] := rfl
theorem one_p (a : Option (Nat × Nat)) : V.one (.p a) = true := rfl
theorem cells_sl (a b n : Nat) (c : Cap) : V.cells (.sl a b n c) = [.sl a b n c] := rfl
theorem one_sl (a b n : Nat) (c : Cap) : V.one (.sl a b n c) = true := rfl
theorem cells_nsl  : V.cells (.nsl) = [.nsl] := rfl
theorem one_nsl  : V.one (.nsl) = true := rfl
theorem cells_es (z : Bool) : V.cells (.es z) = [.es z] := rfl
theorem one_es (z : Bool) : V.one (.es z) = true := rfl
theorem cells_so (a b c : Nat) : V.cells (.so a b c) = [.so a b c] := rfl
theorem one_so (a b c : Nat) : V.one (.so a b c) = true := rfl
theorem cells_fn (f : Nat) (l : List V) : V.cells (.fn f l) = [.fn f l] := rfl
theorem one_fn (f : Nat) (l : List V) : V.one (.fn f l) = true := rfl
theorem cells_nfn  : V.cells (.nfn) = [.nfn] := rfl
theorem one_nfn  : V.one (.nfn) = true := rfl
theorem cells_agg (l : List V) : V.cells (.agg l) = l := rfl
end Mx
