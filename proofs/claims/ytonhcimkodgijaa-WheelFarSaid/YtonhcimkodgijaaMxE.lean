/-
  What leaves the heap alone, and does not look at it, comes to the same in the abstract machine and in the loaded program.
-/
import Derived.Test.YtonhcimkodgijaaMxD
namespace Mx
open Go

def o1 {α : Type} (gs : Nat) (x : Operand) (f : Opd → Option α) : Option α := match trO gs x with
  | some a => f a
  | none => none
theorem o1_inv {α : Type} {gs : Nat} {x : Operand} {f : Opd → Option α} {r : α} (h : o1 gs x f = some r) : ∃ a, trO gs x = some a ∧ f a = some r := by
  unfold o1 at h
  split at h
  · rename_i a ha; exact ⟨a, ha, h⟩
  · cases h
def oo {α : Type} (gs : Nat) (x : Option Operand) (f : Option Opd → Option α) : Option α := match x with
  | none => f none
  | some x => o1 gs x fun a => f (some a)
theorem oo_inv {α : Type} {gs : Nat} {x : Option Operand} {f : Option Opd → Option α} {r : α} (h : oo gs x f = some r) :
    (x = none ∧ f none = some r) ∨ ∃ y a, x = some y ∧ trO gs y = some a ∧ f (some a) = some r := by
  cases x with
  | none => exact .inl ⟨rfl, h⟩
  | some y =>
    obtain ⟨a, h1, h2⟩ := o1_inv (by simpa only [oo] using h)
    exact .inr ⟨y, a, rfl, h1, h2⟩
def os {α : Type} (gs : Nat) (x : List Operand) (f : List Opd → Option α) : Option α := match trOs gs x with
  | some a => f a
  | none => none
theorem os_inv {α : Type} {gs : Nat} {x : List Operand} {f : List Opd → Option α} {r : α} (h : os gs x f = some r) : ∃ a, trOs gs x = some a ∧ f a = some r := by
  unfold os at h
  split at h
  · rename_i a ha; exact ⟨a, ha, h⟩
  · cases h

/-- the parts of a whole: place and size of each, and what is put there -/
def trParts (gs : Nat) (place : Nat → Option (Nat × Nat)) : List (Nat × Operand) → Option (List (Nat × Nat × Opd))
  | [] => some []
  | (i, x) :: l => match place i, trO gs x, trParts gs place l with
    | some (o, s), some a, some r => some ((o, s, a) :: r)
    | _, _, _ => none

def placesOf (P : Program) : List Field → Option (List (Nat × Nat))
  | [] => some []
  | f :: fs => match szOf P f.type, placesOf P fs with
    | some n, some r => some ((f.offset, n) :: r)
    | _, _ => none

/-- a call of a builtin function that leaves the heap alone -/
def trPC (P : Program) (gs : Nat) (c : Go.Call) : Option PO :=
  match c.callee with
  | .builtin b => match b with
    | .len => match c.args.toList, c.argTypes.toList with
      | [x], [t] => match P.underlying t with
        | some (.slice _) => o1 gs x fun a => some (.lens a)
        | some .string => o1 gs x fun a => some (.lent a)
        | _ => none
      | _, _ => none
    | .cap => match c.args.toList, c.argTypes.toList with
      | [x], [t] => match P.underlying t with
        | some (.slice _) => o1 gs x fun a => some (.capn a)
        | _ => none
      | _, _ => none
    | .min => os gs c.args.toList fun l => match l with
      | x :: xs => some (.min x xs)
      | [] => none
    | .max => os gs c.args.toList fun l => match l with
      | x :: xs => some (.max x xs)
      | [] => none
    | _ => none
  | _ => none

def trPO (P : Program) (gs : Nat) : Go.Op → Option PO
  | .move x => o1 gs x fun a => some (.mov a)
  | .assign x => o1 gs x fun a => some (.mov a)
  | .pick c x y => o1 gs c fun c => o1 gs x fun a => o1 gs y fun b => some (.pick c a b)
  | .binOp op t x y _ => match P.underlying t with
    | some (.int _) => o1 gs x fun a => o1 gs y fun b => some (.bin op a b)
    | some .string => o1 gs x fun a => o1 gs y fun b => some (.bin op a b)
    | some .bool => match op with
      | .eql => o1 gs x fun a => o1 gs y fun b => some (.eqz false .b a b)
      | .neq => o1 gs x fun a => o1 gs y fun b => some (.eqz true .b a b)
      | _ => none
    | some (.slice _) => match op with
      | .eql => o1 gs x fun a => o1 gs y fun b => some (.eqz false .s a b)
      | .neq => o1 gs x fun a => o1 gs y fun b => some (.eqz true .s a b)
      | _ => none
    | some (.func _ _ _) => match op with
      | .eql => o1 gs x fun a => o1 gs y fun b => some (.eqz false .f a b)
      | .neq => o1 gs x fun a => o1 gs y fun b => some (.eqz true .f a b)
      | _ => none
    | some (.pointer el) => match szOf P el with
      | some (_ + 1) => match op with
        | .eql => o1 gs x fun a => o1 gs y fun b => some (.eqz false .p a b)
        | .neq => o1 gs x fun a => o1 gs y fun b => some (.eqz true .p a b)
        | _ => none
      | _ => none
    | some (.struct _) => if P.eqGuardType P.depth t = true then none else match kindsOf P 20 t with
      | some ks => match op with
        | .eql => o1 gs x fun a => o1 gs y fun b => some (.eqa false ks a b)
        | .neq => o1 gs x fun a => o1 gs y fun b => some (.eqa true ks a b)
        | _ => none
      | none => none
    | some (.array _ _) => if P.eqGuardType P.depth t = true then none else match kindsOf P 20 t with
      | some ks => match op with
        | .eql => o1 gs x fun a => o1 gs y fun b => some (.eqa false ks a b)
        | .neq => o1 gs x fun a => o1 gs y fun b => some (.eqa true ks a b)
        | _ => none
      | none => none
    | _ => none
  | .unOp op _ x => o1 gs x fun a => some (.un op a)
  | .convert src dst x => match P.underlying src, P.underlying dst with
    | some (.int _), some (.int k) => o1 gs x fun a => some (.cvi k a)
    | _, _ => none
  | .nilCheck x => o1 gs x fun a => some (.nilc a)
  | .fieldAddr s x f => match P.underlying s with
    | some (.struct fs) => match fs[f]? with
      | some fl => match szOf P fl.type with
        | some (_ + 1) => o1 gs x fun a => some (.fa fl.offset a)
        | _ => none
      | none => none
    | _ => none
  | .field s x f => match P.underlying s with
    | some (.struct fs) => match fs[f]? with
      | some fl => match P.underlying fl.type, szOf P fl.type with
        | some d, some n => o1 gs x fun a => some (.fld (isAggD d) fl.offset n a)
        | _, _ => none
      | none => none
    | _ => none
  | .index t x i => match P.underlying t with
    | some (.array len el) => match P.underlying el, szOf P el with
      | some d, some n => o1 gs x fun a => o1 gs i fun b => some (.ixa (isAggD d) n len a b)
      | _, _ => none
    | some .string => o1 gs x fun a => o1 gs i fun b => some (.ixs a b)
    | _ => none
  | .indexAddr t x i => match P.underlying t with
    | some (.slice el) => match szOf P el with
      | some n => o1 gs x fun a => o1 gs i fun b => some (.ia n a b)
      | none => none
    | some (.array len el) => match szOf P el with
      | some n => o1 gs x fun a => o1 gs i fun b => some (.iaa n len a b)
      | none => none
    | _ => none
  | .slice t x lo hi mx => match P.underlying t with
    | some (.slice el) => match szOf P el with
      | some (n + 1) => o1 gs x fun a => oo gs lo fun l => oo gs hi fun h => oo gs mx fun m => some (.sls (n + 1) a l h m)
      | _ => none
    | some (.array len el) => match szOf P el with
      | some (n + 1) => o1 gs x fun a => oo gs lo fun l => oo gs hi fun h => oo gs mx fun m => some (.sla (n + 1) len a l h m)
      | _ => none
    | some .string => match mx with
      | none => o1 gs x fun a => oo gs lo fun l => oo gs hi fun h => some (.slt a l h)
      | some _ => none
    | _ => none
  | .makeFunc fn first caps => match fn with
    | .func f => if first.size = 0 then os gs caps.toList fun l => some (.mkf f l) else none
    | _ => none
  | .extract x i => o1 gs x fun a => some (.ext a i)
  | .build t parts => match P.underlying t, zeroOf P t with
    | some (.struct fs), some z => match placesOf P fs.toList with
      | some pl => match trParts gs (fun i => pl[i]?) parts.toList with
        | some l => some (.bld z l)
        | none => none
      | none => none
    | some (.array _ el), some z => match szOf P el with
      | some n => match trParts gs (fun i => some (i * n, n)) parts.toList with
        | some l => some (.bld z l)
        | none => none
      | none => none
    | _, _ => none
  | .call c => trPC P gs c
  | .panic _ => some (.nilc (.c .nfn))
  | _ => none


def EkOk (P : Program) (t : TypeId) : EK → Prop
  | .b => P.underlying t = some .bool
  | .s => ∃ el, P.underlying t = some (.slice el)
  | .f => ∃ p q r, P.underlying t = some (.func p q r)
  | .p => ∃ el n, P.underlying t = some (.pointer el) ∧ szOf P el = some (n + 1)

section
variable {P : Program} {e : En} {w : World}

theorem eqz_run {t : TypeId} {k : EK} (hk : EkOk P t k) {A B : V} {x y : Value} (ra : R e A x) (rb : R e B y) {r : Bool} (h : eqz k A B = some r) (d : Nat) :
    (Op.equalIn (d + 1) t x y).run P w = .ok r w := by
  unfold eqz at h
  split at h <;> (try simp only [EkOk] at hk) <;> (try simp only [R] at ra rb)
  · cases h; rw [ra, rb]; exact run_equalIn_bool w d t _ _ hk
  · obtain ⟨el, n, hd, hn⟩ := hk; cases h; rw [ra, rb]; simp [Op.equalIn, run_underlying hd]
  · obtain ⟨el, n, hd, hn⟩ := hk; cases h; obtain ⟨pl, _, rb⟩ := rb; rw [ra, rb]; simp [Op.equalIn, run_underlying hd]
  · obtain ⟨el, n, hd, hn⟩ := hk; cases h; obtain ⟨pl, _, ra⟩ := ra; rw [ra, rb]; simp [Op.equalIn, run_underlying hd]
  · rename_i pa pb
    obtain ⟨el, n, hd, hn⟩ := hk
    split at h
    · rename_i hid
      cases h
      obtain ⟨pl, h1, ra⟩ := ra
      obtain ⟨pl', h2, rb⟩ := rb
      rw [hid, h2] at h1; cases h1
      rw [ra, rb]
      simp only [Op.equalIn, Sem.run_bind, run_underlying hd, Result.andThen_ok, run_szOf hn]
      have hab : ((⟨pl.blk, pa.2 + pl.sh, none⟩ : Addr) == ⟨pl.blk, pb.2 + pl.sh, none⟩) = (pa.2 == pb.2) := by
        by_cases hoff : pa.2 = pb.2
        · simp [hoff]
        · have : ¬ ((⟨pl.blk, pa.2 + pl.sh, none⟩ : Addr) = ⟨pl.blk, pb.2 + pl.sh, none⟩) := fun h => hoff (by have := congrArg Addr.off h; simp only at this; omega)
          rw [beq_eq_false_iff_ne.2 this, beq_eq_false_iff_ne.2 hoff]
      simp [sameAddr, hab]
    · cases h
  · obtain ⟨el, hd⟩ := hk; cases h; rw [ra, rb]; simp [Op.equalIn, run_underlying hd]
  · obtain ⟨el, hd⟩ := hk; cases h; obtain ⟨pl, _, _, rb⟩ := rb; rw [ra, rb]; simp [Op.equalIn, run_underlying hd]
  · obtain ⟨el, hd⟩ := hk; cases h; obtain ⟨_, _, rb, _⟩ := rb; rw [ra, rb]; simp [Op.equalIn, run_underlying hd]
  · obtain ⟨el, hd⟩ := hk; cases h; obtain ⟨_, _, _, _, rb | ⟨_, _, rb⟩⟩ := rb <;> (rw [ra, rb]; simp [Op.equalIn, run_underlying hd])
  · obtain ⟨el, hd⟩ := hk; cases h; obtain ⟨pl, _, _, ra⟩ := ra; rw [ra, rb]; simp [Op.equalIn, run_underlying hd]
  · obtain ⟨el, hd⟩ := hk; cases h; obtain ⟨_, _, ra, _⟩ := ra; rw [ra, rb]; simp [Op.equalIn, run_underlying hd]
  · obtain ⟨el, hd⟩ := hk; cases h; obtain ⟨_, _, _, _, ra | ⟨_, _, ra⟩⟩ := ra <;> (rw [ra, rb]; simp [Op.equalIn, run_underlying hd])
  · obtain ⟨p, q, s, hd⟩ := hk; cases h; rw [ra, rb]; simp [Op.equalIn, run_underlying hd]
  · obtain ⟨p, q, s, hd⟩ := hk; cases h; obtain ⟨_, rb, _⟩ := rb; rw [ra, rb]; simp [Op.equalIn, run_underlying hd]
  · obtain ⟨p, q, s, hd⟩ := hk; cases h; obtain ⟨_, ra, _⟩ := ra; rw [ra, rb]; simp [Op.equalIn, run_underlying hd]
  · cases h

/-- a value that is no nil interface and no whole: the guard of '==' lets it by -/
def noAgg : Value → Bool
  | .agg _ => false
  | .nilIface => false
  | _ => true
theorem guard_noAgg {op : BinOp} {t : TypeId} {x y : Operand} {u v : Value} (h : noAgg u = true) : eqGuard op t x y u v = pure () := by
  cases u <;> first | (simp [noAgg] at h; done) | (cases op <;> rfl)
theorem eqz_noAgg {k : EK} {A B : V} {x : Value} (ra : R e A x) {r : Bool} (h : eqz k A B = some r) : noAgg x = true := by
  unfold eqz at h
  split at h <;> (try simp only [R] at ra)
  · rw [ra]; rfl
  · rw [ra]; rfl
  · rw [ra]; rfl
  · obtain ⟨_, _, ra⟩ := ra; rw [ra]; rfl
  · obtain ⟨_, _, ra⟩ := ra; rw [ra]; rfl
  · rw [ra]; rfl
  · rw [ra]; rfl
  · rw [ra]; rfl
  · rw [ra]; rfl
  · obtain ⟨_, _, _, ra⟩ := ra; rw [ra]; rfl
  · obtain ⟨_, _, ra, _⟩ := ra; rw [ra]; rfl
  · obtain ⟨_, _, _, _, ra | ⟨_, _, ra⟩⟩ := ra <;> (rw [ra]; rfl)
  · rw [ra]; rfl
  · rw [ra]; rfl
  · obtain ⟨_, ra, _⟩ := ra; rw [ra]; rfl
  · cases h
theorem eqz_binOp {k : EK} {A B : V} {x y : Value} (ra : R e A x) (rb : R e B y) {r : Bool} (h : eqz k A B = some r) (t : TypeId) :
    binOp .eql t x y = (do pure (.bool (← Op.equal t x y))) ∧ binOp .neq t x y = (do pure (.bool (!(← Op.equal t x y)))) := by
  unfold eqz at h
  split at h <;> (try simp only [R] at ra rb)
  · rw [ra, rb]; exact ⟨rfl, rfl⟩
  · rw [ra, rb]; exact ⟨rfl, rfl⟩
  · obtain ⟨_, _, rb⟩ := rb; rw [ra, rb]; exact ⟨rfl, rfl⟩
  · obtain ⟨_, _, ra⟩ := ra; rw [ra, rb]; exact ⟨rfl, rfl⟩
  · obtain ⟨_, _, ra⟩ := ra; obtain ⟨_, _, rb⟩ := rb; rw [ra, rb]; exact ⟨rfl, rfl⟩
  · rw [ra, rb]; exact ⟨rfl, rfl⟩
  · obtain ⟨_, _, _, rb⟩ := rb; rw [ra, rb]; exact ⟨rfl, rfl⟩
  · obtain ⟨_, _, rb, _⟩ := rb; rw [ra, rb]; exact ⟨rfl, rfl⟩
  · obtain ⟨_, _, _, _, rb | ⟨_, _, rb⟩⟩ := rb <;> (rw [ra, rb]; exact ⟨rfl, rfl⟩)
  · obtain ⟨_, _, _, ra⟩ := ra; rw [ra, rb]; exact ⟨rfl, rfl⟩
  · obtain ⟨_, _, ra, _⟩ := ra; rw [ra, rb]; exact ⟨rfl, rfl⟩
  · obtain ⟨_, _, _, _, ra | ⟨_, _, ra⟩⟩ := ra <;> (rw [ra, rb]; exact ⟨rfl, rfl⟩)
  · rw [ra, rb]; exact ⟨rfl, rfl⟩
  · obtain ⟨_, rb, _⟩ := rb; rw [ra, rb]; exact ⟨rfl, rfl⟩
  · obtain ⟨_, ra, _⟩ := ra; rw [ra, rb]; exact ⟨rfl, rfl⟩
  · cases h

theorem eqz_ops {t : TypeId} {k : EK} (hk : EkOk P t k) {A B : V} {x y : Value} (ra : R e A x) (rb : R e B y) {r : Bool} (h : eqz k A B = some r) :
    (binOp .eql t x y).run P w = .ok (.bool r) w ∧ (binOp .neq t x y).run P w = .ok (.bool (!r)) w := by
  obtain ⟨h1, h2⟩ := eqz_binOp ra rb h t
  have hq : (Op.equal t x y).run P w = .ok r w := by
    have := eqz_run (w := w) hk ra rb h 9999
    simpa [Op.equal, Op.maxDepth] using this
  rw [h1, h2]
  exact ⟨by simp [hq], by simp [hq]⟩

theorem eqa_ops {t : TypeId} {ks : List K} (hk : kindsOf P 20 t = some ks) (hag : ∀ d, P.underlying t = some d → isAggD d = true) {l m : List V} {x y : Value} (ra : R e (.agg l) x) (rb : R e (.agg m) y) {r : Bool} (h : eqList ks l m = some r) :
    (binOp .eql t x y).run P w = .ok (.bool r) w ∧ (binOp .neq t x y).run P w = .ok (.bool (!r)) w := by
  simp only [R] at ra rb
  obtain ⟨xs, rfl, rx⟩ := ra
  obtain ⟨ys, rfl, ry⟩ := rb
  obtain ⟨ds, hds, _⟩ := kinds_desc hk
  have := eq_good (P := P) (e := e) (w := w) 20 t ks hk 10000 (by omega) ds hds l m r xs.toList ys.toList h rx ry
  simp only [whole, hag ds hds, if_true, Array.toArray_toList] at this
  rw [run_eql_struct, run_neq_struct, this]
  exact ⟨rfl, rfl⟩
end
end Mx
