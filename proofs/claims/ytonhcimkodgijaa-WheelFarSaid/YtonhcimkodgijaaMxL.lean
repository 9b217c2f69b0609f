/-
  A statement whose operations may come up in more than one order: whichever comes, it is as if they came in the text's.
-/
import Derived.Test.YtonhcimkodgijaaMxK
namespace Mx
open Go

def Opd.rd : Opd → List Nat
  | .t n => [n]
  | _ => []
def rdL (l : List Opd) : List Nat := l.flatMap Opd.rd
def rdO : Option Opd → List Nat
  | some x => x.rd
  | none => []
def rdP (l : List (Nat × Nat × Opd)) : List Nat := l.flatMap fun p => p.2.2.rd
def PO.rd : PO → List Nat
  | .mov x => x.rd
  | .pick c a b => c.rd ++ a.rd ++ b.rd
  | .bin _ x y => x.rd ++ y.rd
  | .eqz _ _ x y => x.rd ++ y.rd
  | .eqa _ _ x y => x.rd ++ y.rd
  | .un _ x => x.rd
  | .cvi _ x => x.rd
  | .fa _ x => x.rd
  | .nilc x => x.rd
  | .fld _ _ _ x => x.rd
  | .ixa _ _ _ x i => x.rd ++ i.rd
  | .ixs x i => x.rd ++ i.rd
  | .ia _ x i => x.rd ++ i.rd
  | .iaa _ _ x i => x.rd ++ i.rd
  | .sls _ x lo hi mx => x.rd ++ rdO lo ++ rdO hi ++ rdO mx
  | .sla _ _ x lo hi mx => x.rd ++ rdO lo ++ rdO hi ++ rdO mx
  | .slt x lo hi => x.rd ++ rdO lo ++ rdO hi
  | .mkf _ caps => rdL caps
  | .ext x _ => x.rd
  | .bld _ parts => rdP parts
  | .lens x => x.rd
  | .capn x => x.rd
  | .lent x => x.rd
  | .min x xs => x.rd ++ rdL xs
  | .max x xs => x.rd ++ rdL xs
def AO.rd : AO → List Nat
  | .box x => x.rd
  | .zero _ => []
  | .sl _ _ parts => rdP parts
  | .mks _ _ len => len.rd
def EO.rd : EO → List Nat
  | .store _ a x => a.rd ++ x.rd
  | .call _ args => rdL args
  | .callv x args => x.rd ++ rdL args
  | .app _ _ s x => s.rd ++ x.rd
  | .appz _ _ _ s x => s.rd ++ x.rd
  | .clear _ x => x.rd
  | .copy _ d x => d.rd ++ x.rd
  | .btos x => x.rd
  | .stob x => x.rd
def Op.rd : Op → List Nat
  | .pu o => o.rd
  | .al o => o.rd
  | .ld _ _ a => a.rd
  | .ef o => o.rd
def IOp.rd (o : IOp) : List Nat := o.op.rd ++ (match o.guard with
  | some (t, _) => [t]
  | none => [])

/-- two frames agree in some places -/
def Agree (l : List Nat) (a b : T) : Prop := ∀ t ∈ l, a.getD t undefV = b.getD t undefV

theorem opd_congr {x : Opd} {a b : T} (h : Agree x.rd a b) : opd a x = opd b x := by
  cases x with
  | t n => exact h n (by simp [Opd.rd])
  | _ => rfl
theorem Agree.left {l m : List Nat} {a b : T} (h : Agree (l ++ m) a b) : Agree l a b := fun t ht => h t (List.mem_append_left _ ht)
theorem Agree.right {l m : List Nat} {a b : T} (h : Agree (l ++ m) a b) : Agree m a b := fun t ht => h t (List.mem_append_right _ ht)
theorem opdL_congr {l : List Opd} {a b : T} (h : Agree (rdL l) a b) : l.map (opd a) = l.map (opd b) := by
  refine List.map_congr_left fun x hx => opd_congr fun t ht => h t ?_
  exact List.mem_flatMap.2 ⟨x, hx, ht⟩
theorem opdO_congr {l : Option Opd} {a b : T} (h : Agree (rdO l) a b) : l.map (opd a) = l.map (opd b) := by
  cases l with
  | none => rfl
  | some x => simp only [Option.map_some]; rw [opd_congr h]
theorem opdP_congr {l : List (Nat × Nat × Opd)} {a b : T} (h : Agree (rdP l) a b) : (l.map fun p => (p.1, p.2.1, opd a p.2.2)) = l.map fun p => (p.1, p.2.1, opd b p.2.2) := by
  refine List.map_congr_left fun x hx => ?_
  rw [opd_congr (x := x.2.2) fun t ht => h t (List.mem_flatMap.2 ⟨x, hx, ht⟩)]

theorem pure1_congr {o : PO} {a b : T} (h : Agree o.rd a b) : pure1 a o = pure1 b o := by
  cases o with
  | mov x => simp only [pure1]; rw [opd_congr h]
  | pick c x y => simp only [pure1]; rw [opd_congr h.left.left, opd_congr h.left.right, opd_congr h.right]
  | bin _ x y => simp only [pure1]; rw [opd_congr h.left, opd_congr h.right]
  | eqz _ _ x y => simp only [pure1]; rw [opd_congr h.left, opd_congr h.right]
  | eqa _ _ x y => simp only [pure1]; rw [opd_congr h.left, opd_congr h.right]
  | un _ x => simp only [pure1]; rw [opd_congr h]
  | cvi _ x => simp only [pure1]; rw [opd_congr h]
  | fa _ x => simp only [pure1]; rw [opd_congr h]
  | nilc x => simp only [pure1]; rw [opd_congr h]
  | fld _ _ _ x => simp only [pure1]; rw [opd_congr h]
  | ixa _ _ _ x i => simp only [pure1]; rw [opd_congr h.left, opd_congr h.right]
  | ixs x i => simp only [pure1]; rw [opd_congr h.left, opd_congr h.right]
  | ia _ x i => simp only [pure1]; rw [opd_congr h.left, opd_congr h.right]
  | iaa _ _ x i => simp only [pure1]; rw [opd_congr h.left, opd_congr h.right]
  | sls _ x lo hi mx => simp only [pure1]; rw [opd_congr h.left.left.left, opdO_congr h.left.left.right, opdO_congr h.left.right, opdO_congr h.right]
  | sla _ _ x lo hi mx => simp only [pure1]; rw [opd_congr h.left.left.left, opdO_congr h.left.left.right, opdO_congr h.left.right, opdO_congr h.right]
  | slt x lo hi => simp only [pure1]; rw [opd_congr h.left.left, opdO_congr h.left.right, opdO_congr h.right]
  | mkf _ caps => simp only [pure1]; rw [opdL_congr h]
  | ext x _ => simp only [pure1]; rw [opd_congr h]
  | bld _ parts => simp only [pure1]; rw [opdP_congr h]
  | lens x => simp only [pure1]; rw [opd_congr h]
  | capn x => simp only [pure1]; rw [opd_congr h]
  | lent x => simp only [pure1]; rw [opd_congr h]
  | min x xs => simp only [pure1]; rw [opd_congr h.left, opdL_congr h.right]
  | max x xs => simp only [pure1]; rw [opd_congr h.left, opdL_congr h.right]

theorem load1_congr {agg : Bool} {n : Nat} {x : Opd} {a b : T} {h : H} (k : Agree x.rd a b) : load1 a h agg n x = load1 b h agg n x := by
  simp only [load1]; rw [opd_congr k]

theorem op1_congr {C : Nat → List V → H → Option (V × H)} {o : Op} {a b : T} {h : H} (k : Agree o.rd a b) : op1 C a h o = op1 C b h o := by
  cases o with
  | pu o => simp only [op1]; rw [pure1_congr k]
  | ld agg n x => simp only [op1]; rw [load1_congr k]
  | al o =>
    cases o with
    | box x => simp only [op1, alloc1]; rw [opd_congr k]
    | zero z => rfl
    | sl _ _ parts => simp only [op1, alloc1]; rw [opdP_congr k]
    | mks _ _ x => simp only [op1, alloc1]; rw [opd_congr k]
  | ef o =>
    cases o with
    | store _ x y => simp only [op1, eff1]; rw [opd_congr k.left, opd_congr k.right]
    | call _ args => simp only [op1, eff1]; rw [opdL_congr k]
    | callv x args => simp only [op1, eff1]; rw [opd_congr k.left, opdL_congr k.right]
    | app _ _ x y => simp only [op1, eff1]; rw [opd_congr k.left, opd_congr k.right]
    | appz _ _ _ x y => simp only [op1, eff1]; rw [opd_congr k.left, opd_congr k.right]
    | clear _ x => simp only [op1, eff1]; rw [opd_congr k]
    | copy _ x y => simp only [op1, eff1]; rw [opd_congr k.left, opd_congr k.right]
    | btos x => simp only [op1, eff1]; rw [opd_congr k]
    | stob x => simp only [op1, eff1]; rw [opd_congr k]

theorem wants_congr {g : Option (Nat × Bool)} {a b : T} (hl : a.length = b.length) (k : ∀ t w, g = some (t, w) → a.getD t undefV = b.getD t undefV) : wants a g = wants b g := by
  cases g with
  | none => rfl
  | some tw =>
    obtain ⟨t, w⟩ := tw
    have h := k t w rfl
    simp only [wants]
    have : a[t]? = b[t]? := by
      by_cases ht : t < a.length
      · have ht' : t < b.length := hl ▸ ht
        rw [List.getElem?_eq_getElem ht, List.getElem?_eq_getElem ht']
        simp only [List.getD_eq_getElem?_getD, List.getElem?_eq_getElem ht, List.getElem?_eq_getElem ht', Option.getD_some] at h
        rw [h]
      · have ht' : ¬ t < b.length := hl ▸ ht
        rw [List.getElem?_eq_none (Nat.le_of_not_lt ht), List.getElem?_eq_none (Nat.le_of_not_lt ht')]
    rw [this]

/-! ### which operation stands ahead of which -/
def dirs (o : Oper) : List Nat := (o.after.toList.filter fun e => Region.binds .any e).map (·.on)

def maskOf (acc : List Nat) (ds : List Nat) : Nat := ds.foldl (fun s d => s ||| 2 ^ d ||| acc.getD d 0) 0
def befs : List Oper → List Nat → List Nat
  | [], acc => acc
  | o :: l, acc => befs l (acc ++ [maskOf acc (dirs o)])

theorem mask_bit (g : Nat → Nat) (k : Nat) : ∀ (ds : List Nat) (s : Nat), (ds.foldl (fun s d => s ||| 2 ^ d ||| g d) s).testBit k = true → s.testBit k = true ∨ ∃ d ∈ ds, d = k ∨ (g d).testBit k = true
  | [], s, h => .inl h
  | d :: ds, s, h => by
    rcases mask_bit g k ds _ h with h1 | ⟨d', hd, h1⟩
    · simp only [Nat.testBit_or, Bool.or_eq_true, Nat.testBit_two_pow, decide_eq_true_eq] at h1
      rcases h1 with (h1 | h1) | h1
      · exact .inl h1
      · exact .inr ⟨d, List.mem_cons_self, .inl h1⟩
      · exact .inr ⟨d, List.mem_cons_self, .inr h1⟩
    · exact .inr ⟨d', List.mem_cons_of_mem _ hd, h1⟩

def GoodB (acc : List Nat) (os : List Oper) : Prop :=
  acc.length = os.length ∧ ∀ i o, os[i]? = some o → ∀ k, (acc.getD i 0).testBit k = true → ∃ d ∈ dirs o, d = k ∨ (d < i ∧ (acc.getD d 0).testBit k = true)

theorem befs_good : ∀ (l : List Oper) (acc : List Nat) (os : List Oper), GoodB acc os → GoodB (befs l acc) (os ++ l)
  | [], acc, os, h => by simpa [befs] using h
  | o :: l, acc, os, h => by
    have h' : GoodB (acc ++ [maskOf acc (dirs o)]) (os ++ [o]) := by
      refine ⟨by simp [h.1], fun i oi hi k hk => ?_⟩
      by_cases hlt : i < os.length
      · rw [List.getElem?_append_left hlt] at hi
        have e1 : ∀ j, j < os.length → (acc ++ [maskOf acc (dirs o)]).getD j 0 = acc.getD j 0 := by
          intro j hj
          simp only [List.getD_eq_getElem?_getD]
          rw [List.getElem?_append_left (by rw [h.1]; exact hj)]
        rw [e1 i hlt] at hk
        obtain ⟨d, hd, h1⟩ := h.2 i oi hi k hk
        refine ⟨d, hd, h1.imp id fun ⟨h2, h3⟩ => ⟨h2, ?_⟩⟩
        rw [e1 d (by omega)]; exact h3
      · rw [List.getElem?_append_right (by omega)] at hi
        have hi0 : i - os.length = 0 := by
          refine Decidable.byContradiction fun hne => ?_
          rw [List.getElem?_eq_none (by simp; omega)] at hi; cases hi
        rw [hi0] at hi; simp at hi; subst hi
        have hii : i = acc.length := by rw [h.1]; omega
        subst hii
        have e2 : (acc ++ [maskOf acc (dirs o)]).getD acc.length 0 = maskOf acc (dirs o) := by simp [List.getD_eq_getElem?_getD]
        rw [e2] at hk
        rcases mask_bit (fun d => acc.getD d 0) k (dirs o) 0 hk with h1 | ⟨d, hd, h1⟩
        · simp at h1
        · refine ⟨d, hd, h1.imp id fun h2 => ?_⟩
          have hdl : d < acc.length := by
            refine Nat.lt_of_not_le fun hge => ?_
            simp only [List.getD_eq_getElem?_getD, List.getElem?_eq_none hge, Option.getD_none, Nat.zero_testBit] at h2
            cases h2
          refine ⟨hdl, ?_⟩
          simp only [List.getD_eq_getElem?_getD] at h2 ⊢
          rw [List.getElem?_append_left hdl]; exact h2
    have := befs_good l _ _ h'
    simpa [befs] using this

def bef (ops : Array Oper) (i j : Nat) : Bool := ((befs ops.toList []).getD j 0).testBit i

def Closed (ops : Array Oper) (D : Nat → Bool) : Prop := ∀ i o, ops[i]? = some o → D i = true → ∀ d ∈ dirs o, D d = true

theorem closed_bef {ops : Array Oper} {D : Nat → Bool} (hD : Closed ops D) : ∀ (j : Nat) (o : Oper), ops[j]? = some o → (∀ d ∈ dirs o, D d = true) → ∀ i, bef ops i j = true → D i = true := by
  have hg := befs_good ops.toList [] [] ⟨rfl, fun i o h => by simp at h⟩
  simp only [List.nil_append] at hg
  intro j
  induction j using Nat.strongRecOn with
  | _ j ih =>
    intro o ho hd i hi
    obtain ⟨d, hdm, h1⟩ := hg.2 j o (by simpa using ho) i hi
    rcases h1 with rfl | ⟨hlt, h2⟩
    · exact hd _ hdm
    · have hDd := hd d hdm
      have hj : j < ops.size := (Array.getElem?_eq_some_iff.1 ho).1
      have hod : ops[d]? = some ops[d] := Array.getElem?_eq_getElem (by omega)
      exact ih d hlt ops[d] hod (fun x hx => hD d _ hod hDd x hx) i h2

/-! ### what is asked of such a statement -/
def heapy (o : IOp) : Bool := match o.op with
  | .al _ => true
  | .ef _ => true
  | _ => false
def isEff (o : IOp) : Bool := match o.op with
  | .ef _ => true
  | _ => false
def isLd (o : IOp) : Bool := match o.op with
  | .ld _ _ _ => true
  | _ => false
def wr (o : IOp) (l : List Nat) : Bool := match o.dst with
  | some t => l.contains t
  | none => false

/-- the operations i < j touch one temporary -/
def clash (a b : IOp) : Bool := wr a b.rd || wr b a.rd || (match a.dst, b.dst with
  | some x, some y => x == y
  | _, _ => false)

def pairOK (ops : Array Oper) (il : List IOp) (pairs : List (Nat × Nat)) (i j : Nat) : Bool :=
  match il[i]?, il[j]? with
  | some a, some b => bef ops i j || (!(clash a b) && !(isEff a && isEff b) && (!(isLd a && isEff b) || pairs.contains (i, j)) && (!(isEff a && isLd b) || pairs.contains (j, i)))
  | _, _ => true

def drawOK (ops : Array Oper) (il : List IOp) (pairs : List (Nat × Nat)) : Bool :=
  (List.range ops.size).all fun j => ((ops[j]?).map fun o => (dirs o).all (· < j)).getD false && (List.range j).all fun i => pairOK ops il pairs i j

theorem drawOK_spec {ops : Array Oper} {il : List IOp} {pairs : List (Nat × Nat)} (h : drawOK ops il pairs = true) :
    (∀ j o, ops[j]? = some o → ∀ d ∈ dirs o, d < j) ∧ ∀ i j, i < j → j < ops.size → pairOK ops il pairs i j = true := by
  unfold drawOK at h
  rw [List.all_eq_true] at h
  refine ⟨fun j o ho d hd => ?_, fun i j hij hj => ?_⟩
  · have hj : j < ops.size := (Array.getElem?_eq_some_iff.1 ho).1
    have := h j (List.mem_range.2 hj)
    rw [ho] at this
    simp only [Option.map_some, Option.getD_some, Bool.and_eq_true, List.all_eq_true, decide_eq_true_eq] at this
    exact this.1 d hd
  · have := h j (List.mem_range.2 hj)
    simp only [Bool.and_eq_true, List.all_eq_true] at this
    exact this.2 i (List.mem_range.2 hij)

end Mx
