/-
  An abstract machine for loaded Go functions: values, a heap of rows, and what each operation does to them; it is a function, without open orders and without capacities. What it comes to is what the loaded program comes to (proved in the later parts).
-/
import GoSem.Step
import Derived.Orders
import Derived.KernelRfl
namespace Mx
open Go

/-- how far a slice may grow in place: so many elements, just; or nobody knows (elements of so many cells), but so many at least -/
inductive Cap where
  | ex (n : Nat)
  | op (esz : Nat)
  | ol (kn esz : Nat)
  deriving DecidableEq, Inhabited

inductive V where
  | i (k : IntKind) (n : Int)
  | b (b : Bool)
  | s (s : ByteArray)
  | p (a : Option (Nat × Nat))
  | sl (id off len : Nat) (c : Cap)
  | nsl
  | es (z : Bool)
  | so (id off e : Nat)
  | fn (f : Nat) (caps : List V)
  | nfn
  | agg (l : List V)
  | tup (l : List V)
  deriving Inhabited

/-- a tree of numbers' things -/
inductive Tr (α : Type) where
  | l
  | n (a : Tr α) (v : Option α) (b : Tr α)

def Tr.get {α : Type} : Tr α → Nat → Option α
  | .l, _ => none
  | .n a v b, k => if k = 0 then v else if k % 2 = 1 then a.get (k / 2) else b.get (k / 2 - 1)

def Tr.setF {α : Type} : Nat → Tr α → Nat → Option α → Tr α
  | 0, t, _, _ => t
  | f + 1, .l, k, x => if k = 0 then .n .l x .l else if k % 2 = 1 then .n (Tr.setF f .l (k / 2) x) none .l else .n .l none (Tr.setF f .l (k / 2 - 1) x)
  | f + 1, .n a v b, k, x => if k = 0 then .n a x b else if k % 2 = 1 then .n (Tr.setF f a (k / 2) x) v b else .n a v (Tr.setF f b (k / 2 - 1) x)

theorem Tr.get_setF {α : Type} : ∀ (f : Nat) (t : Tr α) (k : Nat) (x : Option α) (j : Nat), k < f → (Tr.setF f t k x).get j = if j = k then x else t.get j := by
  intro f
  induction f with
  | zero => intro t k x j h; omega
  | succ f ih =>
    intro t k x j h
    cases t with
    | l =>
      simp only [Tr.setF]
      by_cases hk : k = 0
      · subst hk
        simp only [if_true, Tr.get]
        by_cases hj : j = 0
        · simp [hj]
        · simp only [hj, if_false]; split <;> rfl
      · simp only [hk, if_false]
        by_cases ho : k % 2 = 1
        · simp only [ho, if_true, Tr.get]
          by_cases hj : j = 0
          · subst hj; simp only [if_true]; rw [if_neg (by omega)]
          · simp only [hj, if_false]
            by_cases hjo : j % 2 = 1
            · simp only [hjo, if_true]; rw [ih _ _ _ _ (by omega)]; simp only [Tr.get]
              by_cases e : j / 2 = k / 2
              · rw [if_pos e, if_pos (by omega)]
              · rw [if_neg e, if_neg (by omega)]
            · simp only [hjo, if_false]; rw [if_neg (by omega)]
        · simp only [ho, if_false, Tr.get]
          by_cases hj : j = 0
          · subst hj; simp only [if_true]; rw [if_neg (by omega)]
          · simp only [hj, if_false]
            by_cases hjo : j % 2 = 1
            · simp only [hjo, if_true]; rw [if_neg (by omega)]
            · simp only [hjo, if_false]; rw [ih _ _ _ _ (by omega)]; simp only [Tr.get]
              by_cases e : j / 2 - 1 = k / 2 - 1
              · rw [if_pos e, if_pos (by omega)]
              · rw [if_neg e, if_neg (by omega)]
    | n a v b =>
      simp only [Tr.setF]
      by_cases hk : k = 0
      · subst hk
        simp only [if_true, Tr.get]
        by_cases hj : j = 0
        · simp [hj]
        · simp only [hj, if_false]
      · simp only [hk, if_false]
        by_cases ho : k % 2 = 1
        · simp only [ho, if_true, Tr.get]
          by_cases hj : j = 0
          · subst hj; simp only [if_true]; rw [if_neg (by omega)]
          · simp only [hj, if_false]
            by_cases hjo : j % 2 = 1
            · simp only [hjo, if_true]; rw [ih _ _ _ _ (by omega)]
              by_cases e : j / 2 = k / 2
              · rw [if_pos e, if_pos (by omega)]
              · rw [if_neg e, if_neg (by omega)]
            · simp only [hjo, if_false]; rw [if_neg (by omega)]
        · simp only [ho, if_false, Tr.get]
          by_cases hj : j = 0
          · subst hj; simp only [if_true]; rw [if_neg (by omega)]
          · simp only [hj, if_false]
            by_cases hjo : j % 2 = 1
            · simp only [hjo, if_true]; rw [if_neg (by omega)]
            · simp only [hjo, if_false]; rw [ih _ _ _ _ (by omega)]
              by_cases e : j / 2 - 1 = k / 2 - 1
              · rw [if_pos e, if_pos (by omega)]
              · rw [if_neg e, if_neg (by omega)]

/-- a row of cells (each of one value); 'ro': it came in, and is not written -/
structure O where
  ro : Bool
  c : List V
  deriving Inhabited

/-- the heap: the next number, and what lies at each -/
structure H where
  nx : Nat
  tr : Tr O

def H.get (h : H) (k : Nat) : Option O := h.tr.get k
def H.put (h : H) (k : Nat) (o : Option O) : H := { nx := h.nx, tr := Tr.setF (k + 1) h.tr k o }
def H.new (h : H) (o : O) : H := { nx := h.nx + 1, tr := Tr.setF (h.nx + 1) h.tr h.nx (some o) }
def H.kill (h : H) (k : Nat) : H := h.put k none

@[simp] theorem H.get_put (h : H) (k : Nat) (o : Option O) (j : Nat) : (h.put k o).get j = if j = k then o else h.get j :=
  Tr.get_setF _ _ _ _ _ (Nat.lt_succ_self k)
@[simp] theorem H.get_new (h : H) (o : O) (j : Nat) : (h.new o).get j = if j = h.nx then some o else h.get j :=
  Tr.get_setF _ _ _ _ _ (Nat.lt_succ_self _)
@[simp] theorem H.nx_put (h : H) (k : Nat) (o : Option O) : (h.put k o).nx = h.nx := rfl
@[simp] theorem H.nx_new (h : H) (o : O) : (h.new o).nx = h.nx + 1 := rfl
@[simp] theorem H.get_kill (h : H) (k j : Nat) : (h.kill k).get j = if j = k then none else h.get j := H.get_put _ _ _ _
@[simp] theorem H.nx_kill (h : H) (k : Nat) : (h.kill k).nx = h.nx := rfl

/-! ### rows of values -/

/-- so many from a place on; none: they are not all there -/
def cut (l : List V) (off n : Nat) : Option (List V) := if off + n ≤ l.length then some ((l.drop off).take n) else none

/-- others in their place -/
def lay (l : List V) (off : Nat) (xs : List V) : List V := l.take off ++ xs ++ l.drop (off + xs.length)

def V.cells : V → List V
  | .agg l => l
  | v => [v]

def V.one : V → Bool
  | .agg _ => false
  | .tup _ => false
  | _ => true

/-- what a row of a block has -/
def H.load (h : H) (id off n : Nat) : Option (List V) :=
  match h.get id with
  | some o => cut o.c off n
  | none => none

/-- other values in a row that is one's own -/
def H.store (h : H) (id off : Nat) (xs : List V) : Option H :=
  match h.get id with
  | some o => if o.ro = false ∧ off + xs.length ≤ o.c.length ∧ xs.all V.one = true then some (h.put id (some { o with c := lay o.c off xs })) else none
  | none => none

/-- what a cell is compared as -/
inductive K where
  | b
  | i
  | s
  deriving DecidableEq, Inhabited

/-- what two values are compared as: bools, pointers, slices, functions -/
inductive EK where
  | b
  | p
  | s
  | f
  deriving DecidableEq, Inhabited

/-! ### operations -/
inductive Opd where
  | t (n : Nat)
  | c (v : V)
  | f (n : Nat)
  | g (n : Nat)
  deriving Inhabited

/-- what leaves the heap alone, and does not look at it -/
inductive PO where
  | mov (x : Opd)
  | pick (c a b : Opd)
  | bin (o : BinOp) (x y : Opd)
  | eqz (neg : Bool) (k : EK) (x y : Opd)
  | eqa (neg : Bool) (ks : List K) (x y : Opd)
  | un (o : UnOp) (x : Opd)
  | cvi (k : IntKind) (x : Opd)
  | fa (off : Nat) (x : Opd)
  | nilc (x : Opd)
  | fld (agg : Bool) (off n : Nat) (x : Opd)
  | ixa (agg : Bool) (n len : Nat) (x i : Opd)
  | ixs (x i : Opd)
  | ia (esz : Nat) (x i : Opd)
  | iaa (esz len : Nat) (x i : Opd)
  | sls (esz : Nat) (x : Opd) (lo hi mx : Option Opd)
  | sla (esz len : Nat) (x : Opd) (lo hi mx : Option Opd)
  | slt (x : Opd) (lo hi : Option Opd)
  | mkf (f : Nat) (caps : List Opd)
  | ext (x : Opd) (i : Nat)
  | bld (z : List V) (parts : List (Nat × Nat × Opd))
  | lens (x : Opd)
  | capn (x : Opd)
  | lent (x : Opd)
  | min (x : Opd) (xs : List Opd)
  | max (x : Opd) (xs : List Opd)
  deriving Inhabited

/-- what makes a row -/
inductive AO where
  | box (x : Opd)
  | zero (z : List V)
  | sl (len : Nat) (cells : List V) (parts : List (Nat × Nat × Opd))
  | mks (bytes : Nat) (z : List V) (len : Opd)
  deriving Inhabited

/-- what changes the heap, or hangs on it (but loads) -/
inductive EO where
  | store (n : Nat) (a x : Opd)
  | call (f : Nat) (args : List Opd)
  | callv (x : Opd) (args : List Opd)
  | app (esz bytes : Nat) (s x : Opd)
  | appz (esz bytes : Nat) (z : List V) (s n : Opd)
  | clear (z : List V) (x : Opd)
  | copy (esz : Nat) (d x : Opd)
  | btos (x : Opd)
  | stob (x : Opd)
  deriving Inhabited

inductive Op where
  | pu (o : PO)
  | al (o : AO)
  | ld (agg : Bool) (n : Nat) (a : Opd)
  | ef (o : EO)
  deriving Inhabited

structure IOp where
  dst : Option Nat
  op : Op
  guard : Option (Nat × Bool)   -- the temporary that is asked, and what it must be
  deriving Inhabited

inductive IC where
  | skip
  | region (ops : List IOp)
  | draw (ops : List IOp) (pairs : List (Nat × Nat))
  | seq (a b : IC)
  | cond (c : Opd) (a b : IC)
  | block (id : Nat) (c : IC)
  | loop (c : IC)
  | exit (id : Nat)
  | ret
  deriving Inhabited

inductive RV where
  | t (n : Nat)
  | c (n : Nat) (agg : Bool) (sz : Nat)
  deriving Inhabited

structure IFn where
  ntmps : Nat
  results : List RV
  body : IC
  deriving Inhabited

/-! ### what they come to -/
abbrev T := List V

def undefV : V := .tup []
def opd (ts : T) : Opd → V
  | .t n => ts.getD n undefV
  | .c v => v
  | .f n => .fn n []
  | .g n => .p (some (n, 0))

def putT (ts : T) (dst : Option Nat) (v : V) : T :=
  match dst with
  | some d => ts.set d v
  | none => ts

def binI (o : BinOp) (k : IntKind) (a b : Int) : Option V :=
  match o with
  | .add => some (.i k (k.wrap (a + b)))
  | .sub => some (.i k (k.wrap (a - b)))
  | .mul => some (.i k (k.wrap (a * b)))
  | .quo => if b = 0 then none else some (.i k (k.wrap (a.tdiv b)))
  | .rem => if b = 0 then none else some (.i k (a.tmod b))
  | .and => some (.i k (k.wrap (BitVec.ofInt k.bits a &&& BitVec.ofInt k.bits b).toNat))
  | .or => some (.i k (k.wrap (BitVec.ofInt k.bits a ||| BitVec.ofInt k.bits b).toNat))
  | .xor => some (.i k (k.wrap (BitVec.ofInt k.bits a ^^^ BitVec.ofInt k.bits b).toNat))
  | .andNot => some (.i k (k.wrap (BitVec.ofInt k.bits a &&& ~~~ BitVec.ofInt k.bits b).toNat))
  | .eql => some (.b (a == b))
  | .neq => some (.b (a != b))
  | .lss => some (.b (decide (a < b)))
  | .leq => some (.b (decide (a ≤ b)))
  | .gtr => some (.b (decide (a > b)))
  | .geq => some (.b (decide (a ≥ b)))
  | _ => none

def shI (o : BinOp) (k : IntKind) (a b : Int) : Option V :=
  if b < 0 then none else
  match o with
  | .shl => some (.i k (k.wrap (a * 2 ^ (min b.toNat k.bits))))
  | .shr => some (.i k (a.fdiv (2 ^ (min b.toNat k.bits))))
  | _ => none

def binS (o : BinOp) (a b : ByteArray) : Option V :=
  match o with
  | .add => if a.size + b.size ≤ 281474976710656 then some (.s (a ++ b)) else none
  | .eql => some (.b (a.toList == b.toList))
  | .neq => some (.b (!(a.toList == b.toList)))
  | _ => none

def isSh : BinOp → Bool
  | .shl => true
  | .shr => true
  | _ => false

def bin (o : BinOp) : V → V → Option V
  | .i k a, .i k' b => if isSh o then shI o k a b else if k = k' then binI o k a b else none
  | .s a, .s b => binS o a b
  | _, _ => none

/-- of two values that are no wholes, nor strings, nor two pointers: whether they are equal -/
def eqz : EK → V → V → Option Bool
  | .b, .b a, .b b => some (a == b)
  | .p, .p none, .p none => some true
  | .p, .p none, .p (some _) => some false
  | .p, .p (some _), .p none => some false
  | .p, .p (some a), .p (some b) => if a.1 = b.1 then some (a.2 == b.2) else none
  | .s, .nsl, .nsl => some true
  | .s, .nsl, .sl _ _ _ _ => some false
  | .s, .nsl, .es _ => some false
  | .s, .nsl, .so _ _ _ => some false
  | .s, .sl _ _ _ _, .nsl => some false
  | .s, .es _, .nsl => some false
  | .s, .so _ _ _, .nsl => some false
  | .f, .nfn, .nfn => some true
  | .f, .nfn, .fn _ _ => some false
  | .f, .fn _ _, .nfn => some false
  | _, _, _ => none

def eqAtom : K → V → V → Option Bool
  | .i, .i k a, .i k' b => if k = k' then some (a == b) else none
  | .b, .b a, .b b => some (a == b)
  | .s, .s a, .s b => some (a.toList == b.toList)
  | _, _, _ => none

def eqList : List K → List V → List V → Option Bool
  | [], [], [] => some true
  | k :: ks, x :: xs, y :: ys =>
    match eqAtom k x y, eqList ks xs ys with
    | some a, some b => some (a && b)
    | _, _ => none
  | _, _, _ => none

def un : UnOp → V → Option V
  | .neg, .i k n => some (.i k (k.wrap (0 - n)))
  | .not, .b x => some (.b (!x))
  | .xor, .i k n => binI .xor k (if k.signed then -1 else k.max) n
  | _, _ => none

def natIn (v : V) (most : Nat) : Option Nat :=
  match v with
  | .i _ n => if 0 ≤ n ∧ n ≤ (most : Int) then some n.toNat else none
  | _ => none

/-- low and high of a cut -/
def bounds (len cap : Nat) (lo hi mx : Option V) : Option (Nat × Nat × Nat) :=
  match mx with
  | some m =>
    match hi with
    | some h =>
      match natIn m cap with
      | some m =>
        match natIn h m with
        | some h =>
          match lo with
          | some l =>
            match natIn l h with
            | some l => some (l, h, m)
            | none => none
          | none => some (0, h, m)
        | none => none
      | none => none
    | none => none
  | none =>
    match (match hi with | some h => natIn h cap | none => some len) with
    | some h =>
      match lo with
      | some l =>
        match natIn l h with
        | some l => some (l, h, cap)
        | none => none
      | none => some (0, h, cap)
    | none => none

/-- so many elements may surely be there -/
def mkOp (len kn e : Nat) : Cap := if len = kn then .op e else .ol kn e
def cutOp (esz id off len kn e : Nat) (lo hi mx : Option V) : Option V :=
  if e = esz then
    match bounds len kn lo hi mx with
    | some (l, h, m) =>
      match mx with
      | some _ => if m = l then some (.es true) else some (.sl id (off + l * esz) (h - l) (.ex (m - l)))
      | none => if l = 0 then some (.sl id off h (mkOp h kn e)) else if l = kn then some (.so id (off + l * esz) e) else some (.sl id (off + l * esz) (h - l) (mkOp (h - l) (kn - l) e))
    | none => none
  else none

/-- a cut of a slice; of one of which nobody knows how far it may grow, within its length -/
def slcut (esz : Nat) (x : V) (lo hi mx : Option V) : Option V :=
  match x with
  | .sl id off len (.ex cap) =>
    match bounds len cap lo hi mx with
    | some (l, h, m) => if m = l then some (.es true) else some (.sl id (off + l * esz) (h - l) (.ex (m - l)))
    | none => none
  | .sl id off len (.op e) => cutOp esz id off len len e lo hi mx
  | .sl id off len (.ol kn e) => cutOp esz id off len kn e lo hi mx
  | .nsl =>
    match bounds 0 0 lo hi mx with
    | some _ => some .nsl
    | none => none
  | .es z =>
    match bounds 0 0 lo hi mx with
    | some _ => some (.es (z || mx.isSome))
    | none => none
  | .so id off e =>
    match bounds 0 0 lo hi mx with
    | some _ => if mx.isSome = true then some (.es true) else some (.so id off e)
    | none => none
  | _ => none

def fill (cells : List V) : List (Nat × Nat × V) → Option (List V)
  | [] => some cells
  | (off, size, v) :: rest =>
    if v.cells.length ≠ size ∨ off + v.cells.length > cells.length then none else fill (lay cells off v.cells) rest

def min2 : V → V → Option V
  | .i k x, .i _ y => some (.i k (if y < x then y else x))
  | _, _ => none
def max2 : V → V → Option V
  | .i k x, .i _ y => some (.i k (if y > x then y else x))
  | _, _ => none
def foldO (f : V → V → Option V) (x : V) : List V → Option V
  | [] => some x
  | y :: l => match f x y with
    | some z => foldO f z l
    | none => none

def part (agg : Bool) (l : List V) (off n : Nat) : Option V :=
  if agg then (if off + n ≤ l.length then some (.agg ((l.drop off).take n)) else none) else l[off]?

/-- how far a slice may grow, where somebody knows -/
def capV : V → Option Nat
  | .sl _ _ _ (.ex c) => some c
  | .nsl => some 0
  | .es true => some 0
  | _ => none

def pure1 (ts : T) : PO → Option V
  | .mov x => some (opd ts x)
  | .pick c a b => match opd ts c with
    | .b true => some (opd ts a)
    | .b false => some (opd ts b)
    | _ => none
  | .bin o x y => bin o (opd ts x) (opd ts y)
  | .eqz neg k x y => match eqz k (opd ts x) (opd ts y) with
    | some r => some (.b (if neg then !r else r))
    | none => none
  | .eqa neg ks x y => match opd ts x, opd ts y with
    | .agg a, .agg b => match eqList ks a b with
      | some r => some (.b (if neg then !r else r))
      | none => none
    | _, _ => none
  | .un o x => un o (opd ts x)
  | .cvi k x => match opd ts x with
    | .i _ n => some (.i k (k.wrap n))
    | _ => none
  | .fa off x => match opd ts x with
    | .p (some (id, o)) => some (.p (some (id, o + off)))
    | _ => none
  | .nilc x => match opd ts x with
    | .p (some a) => some (.p (some a))
    | .fn f c => some (.fn f c)
    | _ => none
  | .fld agg off n x => match opd ts x with
    | .agg l => part agg l off n
    | _ => none
  | .ixa agg n len x i => match opd ts x, opd ts i with
    | .agg l, .i _ j => if 0 ≤ j ∧ j < (len : Int) then part agg l (j.toNat * n) n else none
    | _, _ => none
  | .ixs x i => match opd ts x, opd ts i with
    | .s s, .i _ j => if 0 ≤ j then match s[j.toNat]? with
        | some c => some (.i .u8 c.toNat)
        | none => none
      else none
    | _, _ => none
  | .ia esz x i => match opd ts x, opd ts i with
    | .sl id off len _, .i _ j => if 0 ≤ j ∧ j < (len : Int) then some (.p (some (id, off + j.toNat * esz))) else none
    | _, _ => none
  | .iaa esz len x i => match opd ts x, opd ts i with
    | .p (some (id, off)), .i _ j => if 0 ≤ j ∧ j < (len : Int) then some (.p (some (id, off + j.toNat * esz))) else none
    | _, _ => none
  | .sls esz x lo hi mx => slcut esz (opd ts x) (lo.map (opd ts)) (hi.map (opd ts)) (mx.map (opd ts))
  | .sla esz len x lo hi mx => match opd ts x with
    | .p (some (id, off)) => slcut esz (.sl id off len (.ex len)) (lo.map (opd ts)) (hi.map (opd ts)) (mx.map (opd ts))
    | _ => none
  | .slt x lo hi => match opd ts x with
    | .s s => match bounds s.size s.size (lo.map (opd ts)) (hi.map (opd ts)) none with
      | some (l, h, _) => some (.s (s.extract l h))
      | none => none
    | _ => none
  | .mkf f caps => some (.fn f (caps.map (opd ts)))
  | .ext x i => match opd ts x with
    | .tup l => l[i]?
    | _ => none
  | .bld z parts => match fill z (parts.map fun p => (p.1, p.2.1, opd ts p.2.2)) with
    | some l => some (.agg l)
    | none => none
  | .lens x => match opd ts x with
    | .sl _ _ n _ => some (.i .i64 n)
    | .nsl => some (.i .i64 0)
    | .es _ => some (.i .i64 0)
    | .so _ _ _ => some (.i .i64 0)
    | _ => none
  | .capn x => match capV (opd ts x) with
    | some n => some (.i .i64 n)
    | none => none
  | .lent x => match opd ts x with
    | .s s => some (.i .i64 s.size)
    | _ => none
  | .min x xs => foldO min2 (opd ts x) (xs.map (opd ts))
  | .max x xs => foldO max2 (opd ts x) (xs.map (opd ts))

/-- the least power of 2 that bounds what memory may be asked for -/
def room : Nat := 140737488355328

def zrep (z : List V) (n : Nat) : List V := (List.replicate n z).flatten

def alloc1 (ts : T) (h : H) : AO → Option (V × H)
  | .box x => if (opd ts x).cells.all V.one then some (.p (some (h.nx, 0)), h.new { ro := false, c := (opd ts x).cells }) else none
  | .zero z => some (.p (some (h.nx, 0)), h.new { ro := false, c := z })
  | .sl len cells parts => match fill cells (parts.map fun p => (p.1, p.2.1, opd ts p.2.2)) with
    | some l => some (.sl h.nx 0 len (.ex len), h.new { ro := false, c := l })
    | none => none
  | .mks bytes z len => match opd ts len with
    | .i _ n => if 0 ≤ n ∧ n.toNat * bytes ≤ room ∧ n ≤ 9223372036854775807 then
        some (.sl h.nx 0 n.toNat (.ex n.toNat), h.new { ro := false, c := zrep z n.toNat }) else none
    | _ => none

def load1 (ts : T) (h : H) (agg : Bool) (n : Nat) (a : Opd) : Option V :=
  match opd ts a with
  | .p (some (id, off)) =>
    if agg then match h.load id off n with
      | some l => some (.agg l)
      | none => none
    else match h.load id off 1 with
      | some [v] => some v
      | _ => none
  | _ => none

/-- a slice's own elements: where they lie, and how many -/
def source (esz : Nat) (h : H) : V → Option (List V)
  | .sl id off len _ => h.load id off (len * esz)
  | .nsl => some []
  | .es _ => some []
  | .so _ _ _ => some []
  | _ => none

def lenV : V → Option Nat
  | .sl _ _ n _ => some n
  | .nsl => some 0
  | .es _ => some 0
  | .so _ _ _ => some 0
  | _ => none

def V.isSl : V → Bool
  | .sl _ _ _ _ => true
  | .nsl => true
  | .es _ => true
  | .so _ _ _ => true
  | _ => false

/-- so many elements, these cells, put behind a slice -/
def append1 (esz bytes : Nat) (h : H) (s : V) (n : Nat) (new : List V) : Option (V × H) :=
  if n = 0 then (if s.isSl = true then some (s, h) else none) else
  match s with
  | .nsl => if n * bytes * 2 ≤ room ∧ n ≤ room then some (.sl h.nx 0 n (.op esz), h.new { ro := false, c := new }) else none
  | .es z => if z = true ∧ n * bytes * 2 ≤ room ∧ n ≤ room then some (.sl h.nx 0 n (.op esz), h.new { ro := false, c := new }) else none
  | .sl id off len (.ex cap) =>
    if len + n ≤ cap then
      match h.store id (off + len * esz) new with
      | some h' => some (.sl id off (len + n) (.ex cap), h')
      | none => none
    else if (len + n) * bytes * 2 ≤ room ∧ len + n ≤ room then
      match h.load id off (len * esz) with
      | some old => some (.sl h.nx 0 (len + n) (.op esz), h.new { ro := false, c := old ++ new })
      | none => none
    else none
  | .sl id off len (.op e) =>
    if e ≠ esz then none else
    match h.get id with
    | some o =>
      if o.ro = true then none else
      if off + (len + n) * esz ≤ o.c.length then
        match h.store id (off + len * esz) new with
        | some h' => some (.sl id off (len + n) (.op e), h')
        | none => none
      else if (len + n) * bytes * 2 ≤ room ∧ len + n ≤ room ∧ new.all V.one = true then
        match h.load id off (len * esz) with
        | some old => some (.sl h.nx 0 (len + n) (.op esz), (h.kill id).new { ro := false, c := old ++ new })
        | none => none
      else none
    | none => none
  | .sl id off len (.ol _ e) =>
    if e ≠ esz then none else
    match h.get id with
    | some o =>
      if o.ro = true then none else
      if off + (len + n) * esz ≤ o.c.length then
        match h.store id (off + len * esz) new with
        | some h' => some (.sl id off (len + n) (.op e), h')
        | none => none
      else if (len + n) * bytes * 2 ≤ room ∧ len + n ≤ room ∧ new.all V.one = true then
        match h.load id off (len * esz) with
        | some old => some (.sl h.nx 0 (len + n) (.op esz), (h.kill id).new { ro := false, c := old ++ new })
        | none => none
      else none
    | none => none
  | .so id off e =>
    if e ≠ esz then none else
    match h.get id with
    | some o =>
      if o.ro = true then none else
      if off + (0 + n) * esz ≤ o.c.length then
        match h.store id (off + 0 * esz) new with
        | some h' => some (.sl id off (0 + n) (.op e), h')
        | none => none
      else if (0 + n) * bytes * 2 ≤ room ∧ 0 + n ≤ room ∧ new.all V.one = true then
        match h.load id off (0 * esz) with
        | some old => some (.sl h.nx 0 (0 + n) (.op esz), (h.kill id).new { ro := false, c := old ++ new })
        | none => none
      else none
    | none => none
  | _ => none

/-- so many empty elements put behind a slice that has none -/
def appz1 (esz bytes : Nat) (z : List V) (h : H) (s nv : V) : Option (V × H) :=
  match nv with
  | .i .i64 m => if m = 0 then (if s.isSl = true then some (s, h) else none) else
    match s with
    | .nsl => if 0 < m ∧ m.toNat * bytes * 2 ≤ room ∧ m.toNat ≤ room then some (.sl h.nx 0 m.toNat (.op esz), h.new { ro := false, c := zrep z m.toNat }) else none
    | _ => none
  | _ => none

def bytesOf : List V → Option (List Int)
  | [] => some []
  | .i .u8 n :: l => match bytesOf l with
    | some r => some (n :: r)
    | none => none
  | _ => none

def eff1 (C : Nat → List V → H → Option (V × H)) (ts : T) (h : H) : EO → Option (V × H)
  | .store n a x => match opd ts a with
    | .p (some (id, off)) => if (opd ts x).cells.length = n then match h.store id off (opd ts x).cells with
        | some h' => some (undefV, h')
        | none => none
      else none
    | _ => none
  | .call f args => C f (args.map (opd ts)) h
  | .callv x args => match opd ts x with
    | .fn f caps => C f (args.map (opd ts) ++ caps) h
    | _ => none
  | .app esz bytes s x => match lenV (opd ts x), source esz h (opd ts x) with
    | some n, some new => append1 esz bytes h (opd ts s) n new
    | _, _ => none
  | .appz esz bytes z s n => appz1 esz bytes z h (opd ts s) (opd ts n)
  | .clear z x => match opd ts x with
    | .sl id off n _ => if n = 0 then some (undefV, h) else match h.store id off (zrep z n) with
      | some h' => some (undefV, h')
      | none => none
    | .nsl => some (undefV, h)
    | .es _ => some (undefV, h)
    | .so _ _ _ => some (undefV, h)
    | _ => none
  | .copy esz d x => match lenV (opd ts d), lenV (opd ts x), source esz h (opd ts x) with
    | some m, some n, some l => match opd ts d with
      | .sl id off _ _ => match h.store id off (l.take (Nat.min n m * esz)) with
        | some h' => some (.i .i64 (Nat.min n m : Nat), h')
        | none => none
      | _ => if m = 0 then some (.i .i64 0, h) else none
    | _, _, _ => none
  | .btos x => match source 1 h (opd ts x) with
    | some l => match bytesOf l with
      | some b => some (.s (b.foldl (fun r n => r.push (UInt8.ofNat n.toNat)) ByteArray.empty), h)
      | none => none
    | none => none
  | .stob x => match opd ts x with
    | .s t => if t.size * 2 ≤ room then some (.sl h.nx 0 t.size (.op 1), h.new { ro := true, c := t.toList.map fun c => .i .u8 c.toNat }) else none
    | _ => none

def op1 (C : Nat → List V → H → Option (V × H)) (ts : T) (h : H) : Op → Option (V × H)
  | .pu o => match pure1 ts o with
    | some v => some (v, h)
    | none => none
  | .al o => alloc1 ts h o
  | .ld agg n a => match load1 ts h agg n a with
    | some v => some (v, h)
    | none => none
  | .ef o => eff1 C ts h o

/-- is an operation wanted? none: what is asked is no bool -/
def wants (ts : T) : Option (Nat × Bool) → Option Bool
  | none => some true
  | some (t, want) => match ts[t]? with
    | some (.b x) => some (x == want)
    | _ => some false

def iop (C : Nat → List V → H → Option (V × H)) (o : IOp) (ts : T) (h : H) : Option (T × H) :=
  match wants ts o.guard with
  | some true => match op1 C ts h o.op with
    | some (v, h') => some (putT ts o.dst v, h')
    | none => none
  | some false => some (putT ts o.dst undefV, h)
  | none => none

def iops (C : Nat → List V → H → Option (V × H)) : List IOp → T → H → Option (T × H)
  | [], ts, h => some (ts, h)
  | o :: l, ts, h => match iop C o ts h with
    | some (ts', h') => iops C l ts' h'
    | none => none

/-- the states ahead of each operation, and the last -/
def trace (C : Nat → List V → H → Option (V × H)) : List IOp → T → H → Option (List (T × H))
  | [], ts, h => some [(ts, h)]
  | o :: l, ts, h => match iop C o ts h with
    | some (ts', h') => match trace C l ts' h' with
      | some r => some ((ts, h) :: r)
      | none => none
    | none => none

mutual
def V.same : V → V → Bool
  | .i k u, .i k' v => k == k' && u == v
  | .b u, .b v => u == v
  | .s u, .s v => u.data == v.data
  | .p u, .p v => u == v
  | .sl x y z c, .sl x' y' z' c' => x == x' && y == y' && z == z' && c == c'
  | .nsl, .nsl => true
  | .es u, .es v => u == v
  | .so x y z, .so x' y' z' => x == x' && y == y' && z == z'
  | .fn u l, .fn v r => u == v && V.sames l r
  | .nfn, .nfn => true
  | .agg l, .agg r => V.sames l r
  | .tup l, .tup r => V.sames l r
  | _, _ => false
def V.sames : List V → List V → Bool
  | [], [] => true
  | x :: l, y :: r => V.same x y && V.sames l r
  | _, _ => false
end

/-- a load (its number, ahead of what it stands) reads the same on both sides of what changes the heap -/
def steady (ops : List IOp) (st : List (T × H)) (l e : Nat) : Bool :=
  match ops[l]?, st[l]?, st[e]?, st[e + 1]? with
  | some { op := .ld agg n a, guard := g, .. }, some (ts, _), some (_, h), some (_, h') =>
    match wants ts g with
    | some true =>
      match opd ts a with
      | .p (some (id, off)) =>
        if h.nx ≤ id then true else
        match h.load id off (if agg then n else 1), h'.load id off (if agg then n else 1) with
        | some x, some y => V.sames x y
        | _, _ => false
      | _ => false
    | _ => true
  | _, _, _, _ => false

def idraw (C : Nat → List V → H → Option (V × H)) (ops : List IOp) (pairs : List (Nat × Nat)) (ts : T) (h : H) : Option (T × H) :=
  match pairs with
  | [] => iops C ops ts h
  | _ => match trace C ops ts h with
    | some st => if pairs.all fun p => steady ops st p.1 p.2 then iops C ops ts h else none
    | none => none

inductive X where
  | normal
  | exit (id : Nat)
  | ret
  deriving DecidableEq, Inhabited

def loopN (body : T → H → Option (X × T × H)) : Nat → T → H → Option (X × T × H)
  | 0, _, _ => none
  | n + 1, ts, h => match body ts h with
    | some (.normal, ts', h') => loopN body n ts' h'
    | r => r

def runC (C : Nat → List V → H → Option (V × H)) (k : Nat) : IC → T → H → Option (X × T × H)
  | .skip, ts, h => some (.normal, ts, h)
  | .region ops, ts, h => match iops C ops ts h with
    | some (ts', h') => some (.normal, ts', h')
    | none => none
  | .draw ops pairs, ts, h => match idraw C ops pairs ts h with
    | some (ts', h') => some (.normal, ts', h')
    | none => none
  | .seq a b, ts, h => match runC C k a ts h with
    | some (.normal, ts', h') => runC C k b ts' h'
    | r => r
  | .cond c a b, ts, h => match opd ts c with
    | .b true => runC C k a ts h
    | .b false => runC C k b ts h
    | _ => none
  | .block id c, ts, h => match runC C k c ts h with
    | some (.exit id', ts', h') => if id' = id then some (.normal, ts', h') else some (.exit id', ts', h')
    | r => r
  | .loop c, ts, h => loopN (runC C k c) k ts h
  | .exit id, ts, h => some (.exit id, ts, h)
  | .ret, ts, h => some (.ret, ts, h)

def resV (ts : T) (h : H) : RV → Option V
  | .t n => some (ts.getD n undefV)
  | .c n agg sz => load1 ts h agg sz (.t n)

def resL (ts : T) (h : H) : List RV → Option (List V)
  | [] => some []
  | r :: l => match resV ts h r, resL ts h l with
    | some v, some vs => some (v :: vs)
    | _, _ => none

def resOf (ts : T) (h : H) (l : List RV) : Option V :=
  match resL ts h l with
  | some [v] => some v
  | some vs => some (.tup vs)
  | none => none

/-- a program: its functions -/
def ev (IP : Nat → Option IFn) : Nat → Nat → List V → H → Option (V × H)
  | 0, _, _, _ => none
  | k + 1, f, args, h => match IP f with
    | some fn => match runC (ev IP k) k fn.body (args ++ List.replicate (fn.ntmps - args.length) undefV) h with
      | some (.normal, ts, h') => match resOf ts h' fn.results with
        | some v => some (v, h')
        | none => none
      | some (.ret, ts, h') => match resOf ts h' fn.results with
        | some v => some (v, h')
        | none => none
      | _ => none
    | none => none

end Mx
