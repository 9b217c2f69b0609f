/-
  The translation of an operation into the abstract machine's, and: what leaves the heap alone comes to the same there.
-/
import Derived.Test.YtonhcimkodgijaaMxB
namespace Mx
open Go

def Glob (e : En) (gs : Nat) : Prop := ∀ g, g < gs → ∃ lim, e g = some ⟨g, 0, lim⟩
theorem Glob.mono {e e' : En} {gs : Nat} (h : Glob e gs) (l : Le e e') : Glob e' gs := fun g hg => let ⟨m, k⟩ := h g hg; ⟨m, l _ _ k⟩

def ofAtom : Value → Option V
  | .int k n => some (.i k n)
  | .bool b => some (.b b)
  | .string s => some (.s s)
  | .pointer none => some (.p none)
  | .slice none 0 0 => some .nsl
  | .nilFunc => some .nfn
  | _ => none
def ofAtoms : List Value → Option (List V)
  | [] => some []
  | v :: l => match ofAtom v, ofAtoms l with
    | some x, some r => some (x :: r)
    | _, _ => none
def ofVal : Value → Option V
  | .agg cs => match ofAtoms cs.toList with
    | some l => some (.agg l)
    | none => none
  | v => ofAtom v

theorem ofAtom_R {e : En} {v : Value} {x : V} (h : ofAtom v = some x) : R e x v := by
  unfold ofAtom at h
  split at h <;> cases h <;> simp only [R]
theorem ofAtoms_R {e : En} : ∀ {l : List Value} {xs : List V}, ofAtoms l = some xs → RL e xs l
  | [], xs, h => by simp [ofAtoms] at h; subst h; exact RL_nil
  | v :: l, xs, h => by
    simp only [ofAtoms] at h
    split at h
    · rename_i x r h1 h2
      cases h
      exact RL_cons (ofAtom_R h1) (ofAtoms_R h2)
    · cases h
theorem ofVal_R {e : En} {v : Value} {x : V} (h : ofVal v = some x) : R e x v := by
  unfold ofVal at h
  split at h
  · rename_i cs
    split at h
    · rename_i l hl
      cases h
      simp only [R]
      exact ⟨cs, rfl, ofAtoms_R hl⟩
    · cases h
  · exact ofAtom_R h

def trO (gs : Nat) : Operand → Option Opd
  | .tmp t => some (.t t)
  | .const v => match ofVal v with
    | some x => some (.c x)
    | none => none
  | .func f => some (.f f)
  | .global g => if g < gs then some (.g g) else none

theorem trO_R {e : En} {gs : Nat} (hg : Glob e gs) {ts : T} {a : Act} (hr : RL e ts a.tmps.toList) {x : Operand} {y : Opd} (h : trO gs x = some y) : R e (opd ts y) (a.eval x) := by
  cases x with
  | tmp t =>
    simp only [trO] at h; cases h
    simp only [opd, Act.eval]
    have := hr.getD t
    simpa [List.getD_eq_getElem?_getD, Array.getD_eq_getD_getElem?] using this
  | const v =>
    simp only [trO] at h
    split at h
    · rename_i z hz
      cases h
      exact ofVal_R hz
    · cases h
  | func f =>
    simp only [trO] at h; cases h
    simp only [opd, Act.eval, R]
    exact ⟨#[], rfl, RL_nil⟩
  | global g =>
    simp only [trO] at h
    split at h
    · rename_i hlt
      cases h
      obtain ⟨lim, hl⟩ := hg g hlt
      simp only [opd, Act.eval, R]
      exact ⟨_, hl, by simp⟩
    · cases h

def trOs (gs : Nat) : List Operand → Option (List Opd)
  | [] => some []
  | x :: l => match trO gs x, trOs gs l with
    | some y, some r => some (y :: r)
    | _, _ => none
theorem trOs_R {e : En} {gs : Nat} (hg : Glob e gs) {ts : T} {a : Act} (hr : RL e ts a.tmps.toList) : ∀ {l : List Operand} {m : List Opd}, trOs gs l = some m → RL e (m.map (opd ts)) (l.map a.eval)
  | [], m, h => by simp [trOs] at h; subst h; exact RL_nil
  | x :: l, m, h => by
    simp only [trOs] at h
    split at h
    · rename_i y r h1 h2
      cases h
      exact RL_cons (trO_R hg hr h1) (trOs_R hg hr h2)
    · cases h
def trOo (gs : Nat) : Option Operand → Option (Option Opd)
  | none => some none
  | some x => match trO gs x with
    | some y => some (some y)
    | none => none

def szOf (P : Program) (t : TypeId) : Option Nat := match P.info? t with
  | some i => some i.size
  | none => none
theorem run_szOf {P : Program} {t : TypeId} {n : Nat} (h : szOf P t = some n) (w : World) : (Go.sizeOf t).run P w = .ok n w := by
  unfold szOf at h
  split at h
  · rename_i i hi
    cases h
    simp [Go.sizeOf, typeInfo, hi]
  · cases h
def zeroOf (P : Program) (t : TypeId) : Option (List V) := match P.info? t with
  | some i => match i.zero with
    | some v => match ofAtoms v.cells.toList with
      | some l => if l.length = i.size then some l else none
      | none => none
    | none => none
  | none => none
theorem run_zeroOf {P : Program} {t : TypeId} {z : List V} (h : zeroOf P t = some z) : ∃ v : Value, ∃ i, P.info? t = some i ∧ i.zero = some v ∧ z.length = i.size ∧ (∀ w : World, (zeroValue t).run P w = .ok v w) ∧ ∀ e, RL e z v.cells.toList := by
  unfold zeroOf at h
  split at h
  · rename_i i hi
    split at h
    · rename_i v hv
      split at h
      · rename_i l hl
        split at h
        · rename_i hlen
          cases h
          exact ⟨v, i, hi, hv, hlen, fun w => by simp [zeroValue, typeInfo, hi, hv], fun e => ofAtoms_R hl⟩
        · cases h
      · cases h
    · cases h
  · cases h
def isAggD : TypeDesc → Bool
  | .struct _ => true
  | .array _ _ => true
  | _ => false
theorem run_isAgg {P : Program} {t : TypeId} {d : TypeDesc} (h : P.underlying t = some d) (w : World) : (isAgg t).run P w = .ok (isAggD d) w := by
  simp only [isAgg, Sem.run_bind, run_underlying h, Result.andThen_ok]
  cases d <;> rfl

/-! ### one operation at a time: what it is run to -/
section
variable {P : Program} {e : En} {w : World}

theorem run_op_move {ρ : Operand → Value} {o : Oper} {x : Operand} (h : o.op = .move x ∨ o.op = .assign x) : (execOp ρ o).run P w = .ok (.value (ρ x)) w := by
  rcases h with h | h <;> simp [execOp, h]

theorem sim_binI {o : BinOp} {k : IntKind} {a b : Int} {v : V} (h : binI o k a b = some v) (hs : isSh o = false) (t : TypeId) : ∃ v', (binOp o t (.int k a) (.int k b)).run P w = .ok v' w ∧ R e v v' := by
  cases o <;> first
    | (simp [isSh] at hs; done)
    | skip
  · simp only [binI] at h; cases h; exact ⟨.int k (k.wrap (a + b)), by simp [binOp, Op.intArith], by simp only [R]⟩
  · simp only [binI] at h; cases h; exact ⟨.int k (k.wrap (a - b)), by simp [binOp, Op.intArith], by simp only [R]⟩
  · simp only [binI] at h; cases h; exact ⟨.int k (k.wrap (a * b)), by simp [binOp, Op.intArith], by simp only [R]⟩
  · simp only [binI] at h
    by_cases hb : b = 0
    · rw [if_pos hb] at h; cases h
    · rw [if_neg hb] at h; cases h; exact ⟨.int k (k.wrap (a.tdiv b)), by simp [binOp, Op.intDiv, hb], by simp only [R]⟩
  · simp only [binI] at h
    by_cases hb : b = 0
    · rw [if_pos hb] at h; cases h
    · rw [if_neg hb] at h; cases h; exact ⟨.int k (a.tmod b), by simp [binOp, Op.intDiv, hb], by simp only [R]⟩
  all_goals (simp only [binI] at h; cases h)
  · exact ⟨.int k (k.wrap (BitVec.ofInt k.bits a &&& BitVec.ofInt k.bits b).toNat), by rw [binOp_and]; rfl, by simp only [R]⟩
  · exact ⟨.int k (k.wrap (BitVec.ofInt k.bits a ||| BitVec.ofInt k.bits b).toNat), by rw [binOp_or]; rfl, by simp only [R]⟩
  · exact ⟨.int k (k.wrap (BitVec.ofInt k.bits a ^^^ BitVec.ofInt k.bits b).toNat), by rw [binOp_xor]; rfl, by simp only [R]⟩
  · exact ⟨.int k (k.wrap (BitVec.ofInt k.bits a &&& ~~~ BitVec.ofInt k.bits b).toNat), by rw [binOp_andNot]; rfl, by simp only [R]⟩
  · exact ⟨.bool (a == b), by simp [binOp, Op.intCmp], by simp only [R]⟩
  · exact ⟨.bool (a != b), by simp [binOp, Op.intCmp], by simp only [R]⟩
  · exact ⟨.bool (decide (a < b)), by simp [binOp, Op.intCmp], by simp only [R]⟩
  · exact ⟨.bool (decide (a ≤ b)), by simp [binOp, Op.intCmp], by simp only [R]⟩
  · exact ⟨.bool (decide (a > b)), by simp [binOp, Op.intCmp], by simp only [R]⟩
  · exact ⟨.bool (decide (a ≥ b)), by simp [binOp, Op.intCmp], by simp only [R]⟩

theorem sim_shI {o : BinOp} {k k' : IntKind} {a b : Int} {v : V} (h : shI o k a b = some v) (hs : isSh o = true) (t : TypeId) : ∃ v', (binOp o t (.int k a) (.int k' b)).run P w = .ok v' w ∧ R e v v' := by
  simp only [shI] at h
  by_cases hm : b < 0
  · rw [if_pos hm] at h; cases h
  · rw [if_neg hm] at h
    cases o <;> first
      | (simp [isSh] at hs; done)
      | skip
    · simp only at h; cases h
      exact ⟨.int k (k.wrap (a * 2 ^ (min b.toNat k.bits))), by simp only [binOp, Op.shift, if_neg hm]; rfl, by simp only [R]⟩
    · simp only at h; cases h
      exact ⟨.int k (a.fdiv (2 ^ (min b.toNat k.bits))), by simp only [binOp, Op.shift, if_neg hm]; rfl, by simp only [R]⟩

theorem sim_binS {o : BinOp} {x y : ByteArray} {v : V} (h : binS o x y = some v) (t : TypeId) : ∃ v', (binOp o t (.string x) (.string y)).run P w = .ok v' w ∧ R e v v' := by
  cases o <;> simp only [binS] at h <;> try cases h
  · by_cases hb : x.size + y.size ≤ 281474976710656
    · rw [if_pos hb] at h; cases h
      refine ⟨.string (x ++ y), ?_, by simp only [R]⟩
      have : ¬ (9223372036854775807 < ((x.size : Int) + (y.size : Int))) := by omega
      simp [binOp, Op.stringOp, this]
    · rw [if_neg hb] at h; cases h
  · exact ⟨.bool (x.toList == y.toList), by simp [binOp, Op.stringOp], by simp only [R]⟩
  · exact ⟨.bool (!(x.toList == y.toList)), by simp [binOp, Op.stringOp], by simp only [R]⟩

theorem sim_bin {o : BinOp} {x y v : V} {a b : Value} (h : bin o x y = some v) (ha : R e x a) (hb : R e y b) (t : TypeId) : ∃ v', (binOp o t a b).run P w = .ok v' w ∧ R e v v' := by
  unfold bin at h
  split at h
  · simp only [R] at ha hb
    subst ha; subst hb
    split at h
    · rename_i hs; exact sim_shI h hs t
    · rename_i hs
      split at h
      · rename_i hk; subst hk; exact sim_binI h (by simpa using hs) t
      · cases h
  · simp only [R] at ha hb
    subst ha; subst hb
    exact sim_binS h t
  · cases h

theorem sim_un {o : UnOp} {x v : V} {a : Value} (h : un o x = some v) (ha : R e x a) : ∃ v', (Op.unary o a).run P w = .ok v' w ∧ R e v v' := by
  unfold un at h
  split at h
  · rename_i k n
    simp only [R] at ha; subst ha; cases h
    exact ⟨.int k (k.wrap (0 - n)), by simp only [Op.unary, Op.intArith]; rfl, by simp only [R]⟩
  · rename_i x
    simp only [R] at ha; subst ha; cases h
    exact ⟨.bool (!x), by simp only [Op.unary]; rfl, by simp only [R]⟩
  · rename_i k n
    simp only [R] at ha; subst ha
    simp only [binI] at h; cases h
    exact ⟨.int k (k.wrap (BitVec.ofInt k.bits (if k.signed then -1 else k.max) ^^^ BitVec.ofInt k.bits n).toNat), rfl, by simp only [R]⟩
  · cases h
end
end Mx
