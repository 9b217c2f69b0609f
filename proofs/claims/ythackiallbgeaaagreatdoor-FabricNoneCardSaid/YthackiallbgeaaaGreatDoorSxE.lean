import Derived.Test.YthackiallbgeaaaGreatDoorSxD
namespace Sx
noncomputable section
open Go Mx
def oV : Option V → Res S
  | some v => .ok (ofV v)
  | none => .no
def nb (pc : PC) (x : S) : S := match x with
  | .q a n => match dec pc a with
    | some r => .b (xor r n)
    | none => .q a n
  | x => x
def via1 (f : V → Option V) (x : S) (pc : PC) : Res S := (litV pc (nb pc x)).bind fun v => oV (f v)
def via2 (f : V → V → Option V) (x y : S) (pc : PC) : Res S := (litV pc (nb pc x)).bind fun v => (litV pc (nb pc y)).bind fun u => oV (f v u)
def sI (k : IntKind) (r : Res SX) : Res S := match r with
  | .ok x => .ok (.i k x)
  | .ask a => .ask a
  | .no => .no
def sPick (c a b : S) (pc : PC) : Res S := match c with
  | .b true => .ok a
  | .b false => .ok b
  | .q t n => match dec pc t with
    | some r => if xor r n then .ok a else .ok b
    | none => .ask t
  | _ => .no
def cmpO (o : BinOp) (k : IntKind) (pc : PC) (a b : SX) : Res S := match o with
  | .eql => .ok (cmp .eq pc a b)
  | .neq => .ok (cmp .eq pc a b).neg
  | .lss => .ok (cmp .lt pc a b)
  | .leq => .ok (cmp .le pc a b)
  | .gtr => .ok (cmp .lt pc b a)
  | .geq => .ok (cmp .le pc b a)
  | o => sI k (arith o k pc a b)
def kn : IntKind → Nat
  | .i8 => 0
  | .i16 => 1
  | .i32 => 2
  | .i64 => 3
  | .u8 => 4
  | .u16 => 5
  | .u32 => 6
  | .u64 => 7
def kmaxN : IntKind → Nat
  | .i8 => 127
  | .i16 => 32767
  | .i32 => 2147483647
  | .i64 => 9223372036854775807
  | .u8 => 255
  | .u16 => 65535
  | .u32 => 4294967295
  | .u64 => 18446744073709551615
def wrapF (k : IntKind) (z : Int) : Int := match z with
  | .ofNat c => match Nat.ble c (kmaxN k) with
    | true => .ofNat c
    | false => k.wrap (.ofNat c)
  | .negSucc c => k.wrap (.negSucc c)
def two (x y : S) (f : IntKind → SX → SX → Res S) : Res S := match x with
  | .i k a => match y with
    | .i k' b => match Nat.beq (kn k) (kn k') with
      | true => f k a b
      | false => .no
    | _ => .no
  | _ => .no
def lits (a b : SX) (f : Int → Int → Res S) (g : SX → SX → Res S) : Res S := match a with
  | .lit m => match b with
    | .lit n => f m n
    | b => g (.lit m) b
  | a => g a b
def sRel (o : BinOp) (f : Int → Int → Bool) (x y : S) (pc : PC) : Res S := two x y fun k a b => lits a b (fun m n => .ok (.b (f m n))) (fun a b => cmpO o k pc a b)
def sAri (o : BinOp) (f : IntKind → Int → Int → Int) (x y : S) (pc : PC) : Res S := two x y fun k a b => lits a b (fun m n => .ok (.i k (.lit (f k m n)))) (fun a b => cmpO o k pc a b)
def addF (k : IntKind) (m n : Int) : Int := wrapF k (Int.add m n)
def subF (k : IntKind) (m n : Int) : Int := wrapF k (Int.sub m n)
def mulF (k : IntKind) (m n : Int) : Int := wrapF k (Int.mul m n)
def natOp (f : Nat → Nat → Nat) (o : BinOp) (k : IntKind) (m n : Int) : Int := match m with
  | .ofNat a => match n with
    | .ofNat b => match Nat.ble a (kmaxN k) with
      | true => match Nat.ble b (kmaxN k) with
        | true => .ofNat (f a b)
        | false => numI (binI o k (.ofNat a) (.ofNat b))
      | false => numI (binI o k (.ofNat a) (.ofNat b))
    | .negSucc b => numI (binI o k (.ofNat a) (.negSucc b))
  | .negSucc a => numI (binI o k (.negSucc a) n)
def sBin0 (o : BinOp) (x y : S) (pc : PC) : Res S := match x, y with
  | .i k a, .i k' b => match a, b with
    | .lit m, .lit n => oV (bin o (.i k m) (.i k' n))
    | a, b => if isSh o then (litOf pc b).bind fun n => sI k (shX o k pc a n)
      else if k = k' then cmpO o k pc a b else .no
  | .s a, .s b => oV (binS o a b)
  | _, _ => .no
def sShF (o : BinOp) (f : Nat → Nat → Nat) (x y : S) (pc : PC) : Res S := match x with
  | .i k a => match y with
    | .i k' b => match a with
      | .lit m => match m with
        | .ofNat m => match b with
          | .lit n => match n with
            | .ofNat n => match Nat.ble n 64 with
              | true => match Nat.ble n k.bits with
                | true => .ok (.i k (.lit (wrapF k (.ofNat (f m n)))))
                | false => sBin0 o (.i k (.lit (.ofNat m))) (.i k' (.lit (.ofNat n))) pc
              | false => sBin0 o (.i k (.lit (.ofNat m))) (.i k' (.lit (.ofNat n))) pc
            | .negSucc _ => .no
          | b => sBin0 o (.i k (.lit (.ofNat m))) (.i k' b) pc
        | .negSucc m => sBin0 o (.i k (.lit (.negSucc m))) (.i k' b) pc
      | a => sBin0 o (.i k a) (.i k' b) pc
    | _ => .no
  | _ => .no
def isI : S → Bool
  | .i _ _ => true
  | _ => false
def sBin (o : BinOp) (x y : S) (pc : PC) : Res S := match o with
  | .lss => sRel .lss ilt x y pc
  | .leq => sRel .leq ile x y pc
  | .gtr => sRel .gtr (fun a b => ilt b a) x y pc
  | .geq => sRel .geq (fun a b => ile b a) x y pc
  | .eql => match isI x with
    | true => sRel .eql ieq x y pc
    | false => sBin0 .eql x y pc
  | .neq => match isI x with
    | true => sRel .neq (fun a b => !(ieq a b)) x y pc
    | false => sBin0 .neq x y pc
  | .add => match isI x with
    | true => sAri .add addF x y pc
    | false => sBin0 .add x y pc
  | .sub => sAri .sub subF x y pc
  | .mul => sAri .mul mulF x y pc
  | .and => sAri .and (natOp Nat.land .and) x y pc
  | .or => sAri .or (natOp Nat.lor .or) x y pc
  | .shl => sShF .shl (fun a b => Nat.shiftLeft a b) x y pc
  | o => sBin0 o x y pc
def sEqz0 (neg : Bool) (k : EK) (x y : S) (pc : PC) : Res S := match k, x, y with
  | .f, .fn _ _, .nfn => .ok (.b neg)
  | .f, .nfn, .fn _ _ => .ok (.b neg)
  | k, x, y => via2 (vEqz neg k) x y pc
def sEqz (neg : Bool) (k : EK) (x y : S) (pc : PC) : Res S := match k with
  | .p => match x with
    | .p a => match y with
      | .p b => match a with
        | none => match b with
          | none => .ok (.b (!neg))
          | some _ => .ok (.b neg)
        | some u => match b with
          | none => .ok (.b neg)
          | some w => via2 (vEqz neg .p) (.p (some u)) (.p (some w)) pc
      | _ => .no
    | _ => .no
  | k => sEqz0 neg k x y pc
def eqA (k : K) (x y : S) (pc : PC) : Res Bool := match k, x, y with
  | .i, .i k a, .i k' b => if k = k' then cmpA .eq pc a b else .no
  | k, x, y => (litV pc (nb pc x)).bind fun u => (litV pc (nb pc y)).bind fun v => oR (eqAtom k u v)
def eqL : List K → List S → List S → PC → Res Bool
  | [], [], [], _ => .ok true
  | k :: ks, x :: xs, y :: ys, pc => (eqA k x y pc).bind fun p => (eqL ks xs ys pc).bind fun q => .ok (p && q)
  | _, _, _, _ => .no
def sEqa (neg : Bool) (ks : List K) (x y : S) (pc : PC) : Res S := match x, y with
  | .agg a, .agg b => (eqL ks a b pc).bind fun r => .ok (.b (if neg then !r else r))
  | _, _ => .no
def sUn (o : UnOp) (x : S) (pc : PC) : Res S := match o, x with
  | .not, .b r => .ok (.b (!r))
  | .not, .q a n => .ok (.q a (!n))
  | .neg, .i k (.tm t) => sI k (arith .sub k pc (.lit 0) (.tm t))
  | o, x => via1 (un o) x pc
def sCvi (k : IntKind) (x : S) (pc : PC) : Res S := match x with
  | .i _ n => match n with
    | .lit m => .ok (.i k (.lit (wrapF k m)))
    | n => sI k (cviX k pc n)
  | _ => .no
def sFa (off : Nat) (x : S) : Res S := match x with
  | .p a => match a with
    | some q => match q with
      | (id, o) => .ok (.p (some (id, Nat.add o off)))
    | none => .no
  | _ => .no
def sLens (x : S) : Res S := match x with
  | .sl _ _ n _ => .ok (.i .i64 (.lit (.ofNat n)))
  | .nsl => .ok (.i .i64 (.lit 0))
  | .es _ => .ok (.i .i64 (.lit 0))
  | .so _ _ _ => .ok (.i .i64 (.lit 0))
  | _ => .no
def sIa (esz : Nat) (x i : S) (pc : PC) : Res S := match x with
  | .sl id off len c => match i with
    | .i k j => match j with
      | .lit z => match z with
        | .ofNat n => match Nat.blt n len with
          | true => .ok (.p (some (id, Nat.add off (Nat.mul n esz))))
          | false => .no
        | .negSucc _ => .no
      | j => via2 (vIa esz) (.sl id off len c) (.i k j) pc
    | _ => .no
  | _ => .no
def sIaa (esz len : Nat) (x i : S) (pc : PC) : Res S := match x with
  | .p a => match a with
    | some q => match q with
      | (id, off) => match i with
        | .i k j => match j with
          | .lit z => match z with
            | .ofNat n => match Nat.blt n len with
              | true => .ok (.p (some (id, Nat.add off (Nat.mul n esz))))
              | false => .no
            | .negSucc _ => .no
          | j => via2 (vIaa esz len) (.p (some (id, off))) (.i k j) pc
        | _ => .no
    | none => .no
  | _ => .no
def sNilc (x : S) : Res S := match x with
  | .p (some _) => .ok x
  | .fn _ _ => .ok x
  | _ => .no
def partS (agg : Bool) (l : List S) (off n : Nat) : Option S :=
  if agg then (if off + n ≤ l.length then some (.agg ((l.drop off).take n)) else none) else l[off]?
def sFld (agg : Bool) (off n : Nat) (x : S) : Res S := match x with
  | .agg l => oR (partS agg l off n)
  | _ => .no
def sIxa (agg : Bool) (n len : Nat) (x i : S) (pc : PC) : Res S := match x, i with
  | .agg l, .i _ j => (litOf pc j).bind fun j => if 0 ≤ j ∧ j < (len : Int) then oR (partS agg l (j.toNat * n) n) else .no
  | _, _ => .no
def sSls (esz : Nat) (x : S) (lo hi mx : Option S) (pc : PC) : Res S :=
  (litV pc x).bind fun x => (litO pc lo).bind fun lo => (litO pc hi).bind fun hi => (litO pc mx).bind fun mx => oV (slcut esz x lo hi mx)
def sSla (esz len : Nat) (x : S) (lo hi mx : Option S) (pc : PC) : Res S :=
  (litV pc x).bind fun x => (litO pc lo).bind fun lo => (litO pc hi).bind fun hi => (litO pc mx).bind fun mx => oV (vSla esz len x lo hi mx)
def sSlt (x : S) (lo hi : Option S) (pc : PC) : Res S :=
  (litV pc x).bind fun x => (litO pc lo).bind fun lo => (litO pc hi).bind fun hi => oV (vSlt x lo hi)
def sExt (x : S) (i : Nat) : Res S := match x with
  | .tup l => oR l[i]?
  | _ => .no
def fillS (cells : List S) : List (Nat × Nat × S) → Option (List S)
  | [] => some cells
  | (off, size, v) :: rest =>
    if v.cells.length ≠ size ∨ off + v.cells.length > cells.length then none else fillS (layS cells off v.cells) rest
def sBld (z : List V) (parts : List (Nat × Nat × S)) : Res S := match fillS (ofVs z) parts with
  | some l => .ok (.agg l)
  | none => .no
def sMin2 (pc : PC) (x y : S) : Res S := match x, y with
  | .i k a, .i _ b => (cmpA .lt pc b a).bind fun r => .ok (.i k (if r then b else a))
  | _, _ => .no
def sMax2 (pc : PC) (x y : S) : Res S := match x, y with
  | .i k a, .i _ b => (cmpA .lt pc a b).bind fun r => .ok (.i k (if r then b else a))
  | _, _ => .no
def sFold (f : S → S → Res S) (x : S) : List S → Res S
  | [] => .ok x
  | y :: l => (f x y).bind fun z => sFold f z l
def sMin (x : S) (l : List S) (pc : PC) : Res S := sFold (sMin2 pc) x l
def sMax (x : S) (l : List S) (pc : PC) : Res S := sFold (sMax2 pc) x l
section
variable {σ : Nat → Int} {pc : PC}
theorem oV_ok {o : Option V} {s : S} (h : oV o = .ok s) : o = some (den σ s) := by
  cases o with
  | none => cases h
  | some v => cases h; rw [den_ofV]
theorem nb_ok (hs : Sat σ pc) (x : S) : den σ (nb pc x) = den σ x := by
  unfold nb
  split
  · split
    · rename_i h
      simp only [den, dec_ok hs h]
    · rfl
  · rfl
theorem via1_ok (hs : Sat σ pc) {f : V → Option V} {x s : S} (h : via1 f x pc = .ok s) : f (den σ x) = some (den σ s) := by
  obtain ⟨v, h1, h2⟩ := Res.bind_ok h
  rw [← nb_ok hs x, litV_ok hs h1]; exact oV_ok h2
theorem via2_ok (hs : Sat σ pc) {f : V → V → Option V} {x y s : S} (h : via2 f x y pc = .ok s) : f (den σ x) (den σ y) = some (den σ s) := by
  obtain ⟨v, h1, h2⟩ := Res.bind_ok h
  obtain ⟨u, h3, h4⟩ := Res.bind_ok h2
  rw [← nb_ok hs x, ← nb_ok hs y, litV_ok hs h1, litV_ok hs h3]; exact oV_ok h4
theorem sI_ok {k : IntKind} {r : Res SX} {s : S} (h : sI k r = .ok s) : ∃ x, r = .ok x ∧ s = .i k x := by
  unfold sI at h
  split at h <;> cases h
  exact ⟨_, rfl, rfl⟩
theorem sPick_ok (hs : Sat σ pc) {c a b s : S} (h : sPick c a b pc = .ok s) : vPick (den σ c) (den σ a) (den σ b) = some (den σ s) := by
  unfold sPick at h
  split at h
  · cases h; rfl
  · cases h; rfl
  · split at h
    · rename_i t n r hr
      have e := dec_ok hs hr
      simp only [den, e, vPick]
      split at h
      · rename_i hx; cases h; rw [hx]
      · rename_i hx; cases h; simp only [Bool.not_eq_true] at hx; rw [hx]
    · cases h
  · cases h
theorem neg_den (s : S) (r : Bool) (h : den σ s = .b r) : den σ s.neg = .b (!r) := by
  cases s <;> simp only [den] at h <;> try (cases h; done)
  · cases h; rfl
  · cases h
    simp only [S.neg, den]
    cases (At.ev σ _) <;> rename_i n <;> cases n <;> rfl
theorem cmpO_ok (hs : Sat σ pc) {o : BinOp} {k : IntKind} {a b : SX} {s : S} (h : cmpO o k pc a b = .ok s) : binI o k (a.ev σ) (b.ev σ) = some (den σ s) := by
  unfold cmpO at h
  split at h
  · cases h; rw [cmp_ok hs]; rfl
  · cases h; rw [neg_den _ _ (cmp_ok hs _ _ _)]; rfl
  · cases h; rw [cmp_ok hs]; rfl
  · cases h; rw [cmp_ok hs]; rfl
  · cases h; rw [cmp_ok hs]; rfl
  · cases h; rw [cmp_ok hs]; rfl
  · obtain ⟨x, h1, rfl⟩ := sI_ok h
    exact arith_ok hs h1
theorem kn_eq {k k' : IntKind} (h : Nat.beq (kn k) (kn k') = true) : k = k' := by
  cases k <;> cases k' <;> first | rfl | (simp [kn] at h)
theorem kmax_eq (k : IntKind) : (kmaxN k : Int) = k.max := by cases k <;> rfl
theorem wrapF_eq (k : IntKind) (z : Int) : wrapF k z = k.wrap z := by
  unfold wrapF
  split
  · rename_i c
    split
    · rename_i h
      have := Nat.le_of_ble_eq_true h
      have e := kmax_eq k
      rw [wrap_id]
      · cases k <;> simp [IntKind.min, IntKind.bits, IntKind.signed] <;> omega
      · rw [← e]; simp; exact this
    · rfl
  · rfl
theorem two_ok {x y s : S} {f : IntKind → SX → SX → Res S} (h : two x y f = .ok s) : ∃ k a b, x = .i k a ∧ y = .i k b ∧ f k a b = .ok s := by
  unfold two at h
  split at h
  · split at h
    · split at h
      · rename_i k a _ k' b _ hk
        have := kn_eq hk
        subst this
        exact ⟨_, _, _, rfl, rfl, h⟩
      · cases h
    · cases h
  · cases h
theorem lits_ok {a b : SX} {s : S} {f : Int → Int → Res S} {g : SX → SX → Res S} (h : lits a b f g = .ok s) : (∃ m n, a = .lit m ∧ b = .lit n ∧ f m n = .ok s) ∨ g a b = .ok s := by
  unfold lits at h
  split at h
  · split at h
    · exact .inl ⟨_, _, rfl, rfl, h⟩
    · exact .inr h
  · exact .inr h
theorem sRel_ok (hs : Sat σ pc) {o : BinOp} {f : Int → Int → Bool} (ho : isSh o = false) (hf : ∀ k m n, binI o k m n = some (.b (f m n))) {x y s : S} (h : sRel o f x y pc = .ok s) : bin o (den σ x) (den σ y) = some (den σ s) := by
  obtain ⟨k, a, b, rfl, rfl, h1⟩ := two_ok h
  simp only [den, bin, ho, Bool.false_eq_true, if_false, if_true]
  rcases lits_ok h1 with ⟨m, n, rfl, rfl, h2⟩ | h2
  · cases h2; exact hf k m n
  · exact cmpO_ok hs h2
theorem sAri_ok (hs : Sat σ pc) {o : BinOp} {f : IntKind → Int → Int → Int} (ho : isSh o = false) (hf : ∀ k m n, binI o k m n = some (.i k (f k m n))) {x y s : S} (h : sAri o f x y pc = .ok s) : bin o (den σ x) (den σ y) = some (den σ s) := by
  obtain ⟨k, a, b, rfl, rfl, h1⟩ := two_ok h
  simp only [den, bin, ho, Bool.false_eq_true, if_false, if_true]
  rcases lits_ok h1 with ⟨m, n, rfl, rfl, h2⟩ | h2
  · cases h2; exact hf k m n
  · exact cmpO_ok hs h2
theorem sBin0_ok (hs : Sat σ pc) {o : BinOp} {x y s : S} (h : sBin0 o x y pc = .ok s) : bin o (den σ x) (den σ y) = some (den σ s) := by
  unfold sBin0 at h
  split at h
  · rename_i k a k' b
    split at h
    · exact oV_ok h
    · simp only [den, bin]
      split at h
      · rename_i hsh
        rw [if_pos hsh]
        obtain ⟨n, h1, h2⟩ := Res.bind_ok h
        obtain ⟨z, h3, rfl⟩ := sI_ok h2
        rw [litOf_ok hs h1]
        exact shX_ok hs h3
      · rename_i hsh
        rw [if_neg hsh]
        split at h
        · rename_i hk; rw [if_pos hk]; exact cmpO_ok hs h
        · cases h
  · exact oV_ok h
  · cases h
theorem ilt_dec (a b : Int) : ilt a b = decide (a < b) := by
  cases h : ilt a b with
  | true => have := ilt_eq.1 h; simp [this]
  | false =>
    have : ¬ a < b := fun e => by rw [ilt_eq.2 e] at h; cases h
    simp [this]
theorem ile_dec (a b : Int) : ile a b = decide (a ≤ b) := by
  cases h : ile a b with
  | true => have := ile_eq.1 h; simp [this]
  | false =>
    have : ¬ a ≤ b := fun e => by rw [ile_eq.2 e] at h; cases h
    simp [this]
theorem ieq_dec (a b : Int) : ieq a b = (a == b) := by
  cases h : ieq a b with
  | true => have := ieq_eq.1 h; simp [this]
  | false =>
    have : ¬ a = b := fun e => by rw [ieq_eq.2 e] at h; cases h
    simp [this]
theorem small {k : IntKind} {a : Nat} (h : Nat.ble a (kmaxN k) = true) : a < 2 ^ k.bits ∧ a < 2 ^ (if k.signed then k.bits - 1 else k.bits) := by
  have := Nat.le_of_ble_eq_true h
  cases k <;> simp [kmaxN, IntKind.bits, IntKind.signed] at this ⊢ <;> omega
theorem natOp_ok {f : Nat → Nat → Nat} {o : BinOp} {k : IntKind} (hb : ∀ a b : Nat, a < 2 ^ k.bits → b < 2 ^ k.bits → a < 2 ^ (if k.signed then k.bits - 1 else k.bits) → b < 2 ^ (if k.signed then k.bits - 1 else k.bits) → binI o k (.ofNat a) (.ofNat b) = some (.i k (.ofNat (f a b))))
    (hi : ∀ m n, ∃ z, binI o k m n = some (.i k z)) (m n : Int) : binI o k m n = some (.i k (natOp f o k m n)) := by
  have gen : ∀ m n, binI o k m n = some (.i k (numI (binI o k m n))) := by
    intro m n
    obtain ⟨z, hz⟩ := hi m n
    rw [hz]; rfl
  unfold natOp
  split
  · rename_i a
    split
    · rename_i b
      split
      · rename_i h1
        split
        · rename_i h2
          have e1 := small h1
          have e2 := small h2
          exact hb a b e1.1 e2.1 e1.2 e2.2
        · exact gen _ _
      · exact gen _ _
    · exact gen _ _
  · exact gen _ _
theorem ofInt_nat (n a : Nat) (h : a < 2 ^ n) : (BitVec.ofInt n (Int.ofNat a)).toNat = a := by
  rw [BitVec.toNat_ofInt]
  have : (Int.ofNat a) % ((2 ^ n : Nat) : Int) = ((a % 2 ^ n : Nat) : Int) := by rw [Int.natCast_emod]; rfl
  rw [this, Int.toNat_natCast, Nat.mod_eq_of_lt h]
theorem sShF_ok (hs : Sat σ pc) {o : BinOp} {f : Nat → Nat → Nat} (ho : isSh o = true) (hf : ∀ k m n, n ≤ IntKind.bits k → shI o k (.ofNat m) (.ofNat n) = some (.i k (k.wrap (.ofNat (f m n))))) {x y s : S} (h : sShF o f x y pc = .ok s) : bin o (den σ x) (den σ y) = some (den σ s) := by
  unfold sShF at h
  split at h
  · split at h
    · split at h
      · split at h
        · split at h
          · split at h
            · split at h
              · split at h
                · rename_i hb
                  cases h
                  simp only [den, bin, ho, if_true, SX.ev, wrapF_eq]
                  exact hf _ _ _ (Nat.le_of_ble_eq_true hb)
                · exact sBin0_ok hs h
              · exact sBin0_ok hs h
            · cases h
          · exact sBin0_ok hs h
        · exact sBin0_ok hs h
      · exact sBin0_ok hs h
    · cases h
  · cases h
theorem sBin_ok (hs : Sat σ pc) {o : BinOp} {x y s : S} (h : sBin o x y pc = .ok s) : bin o (den σ x) (den σ y) = some (den σ s) := by
  unfold sBin at h
  split at h
  · exact sRel_ok hs rfl (fun k m n => by rw [ilt_dec]; rfl) h
  · exact sRel_ok hs rfl (fun k m n => by rw [ile_dec]; rfl) h
  · exact sRel_ok hs rfl (fun k m n => by rw [ilt_dec]; rfl) h
  · exact sRel_ok hs rfl (fun k m n => by rw [ile_dec]; rfl) h
  · split at h
    · exact sRel_ok hs rfl (fun k m n => by rw [ieq_dec]; rfl) h
    · exact sBin0_ok hs h
  · split at h
    · exact sRel_ok hs rfl (fun k m n => by rw [ieq_dec]; rfl) h
    · exact sBin0_ok hs h
  · split at h
    · exact sAri_ok hs rfl (fun k m n => by unfold addF; rw [wrapF_eq]; rfl) h
    · exact sBin0_ok hs h
  · exact sAri_ok hs rfl (fun k m n => by unfold subF; rw [wrapF_eq]; rfl) h
  · exact sAri_ok hs rfl (fun k m n => by unfold mulF; rw [wrapF_eq]; rfl) h
  · refine sAri_ok hs rfl (fun k m n => natOp_ok (fun a b h1 h2 h3 h4 => ?_) (fun m n => ⟨_, rfl⟩) m n) h
    simp only [binI]
    rw [BitVec.toNat_and, ofInt_nat _ _ h1, ofInt_nat _ _ h2, wrap_small (Nat.lt_of_le_of_lt Nat.and_le_left h3)]
    rfl
  · refine sAri_ok hs rfl (fun k m n => natOp_ok (fun a b h1 h2 h3 h4 => ?_) (fun m n => ⟨_, rfl⟩) m n) h
    simp only [binI]
    rw [BitVec.toNat_or, ofInt_nat _ _ h1, ofInt_nat _ _ h2, wrap_small (Nat.or_lt_two_pow h3 h4)]
    rfl
  · refine sShF_ok hs rfl (fun k m n hn => ?_) h
    unfold shI
    rw [if_neg (by simp)]
    simp only
    congr 2
    have e : (Int.ofNat n).toNat = n := rfl
    rw [e, Nat.min_eq_left hn]
    congr 1
    show (m : Int) * 2 ^ n = ((m <<< n : Nat) : Int)
    rw [Nat.shiftLeft_eq, Int.natCast_mul, Int.natCast_pow]; rfl
  · exact sBin0_ok hs h
theorem sEqz0_ok (hs : Sat σ pc) {neg : Bool} {k : EK} {x y s : S} (h : sEqz0 neg k x y pc = .ok s) : vEqz neg k (den σ x) (den σ y) = some (den σ s) := by
  unfold sEqz0 at h
  split at h
  · cases h; simp only [den, vEqz, eqz]; cases neg <;> rfl
  · cases h; simp only [den, vEqz, eqz]; cases neg <;> rfl
  · exact via2_ok hs h
theorem sEqz_ok (hs : Sat σ pc) {neg : Bool} {k : EK} {x y s : S} (h : sEqz neg k x y pc = .ok s) : vEqz neg k (den σ x) (den σ y) = some (den σ s) := by
  unfold sEqz at h
  split at h
  · split at h
    · split at h
      · split at h
        · split at h
          · cases h; cases neg <;> rfl
          · cases h; cases neg <;> rfl
        · split at h
          · cases h; cases neg <;> rfl
          · exact via2_ok hs h
      · cases h
    · cases h
  · exact sEqz0_ok hs h
theorem sFa_ok {off : Nat} {x s : S} (h : sFa off x = .ok s) : vFa off (den σ x) = some (den σ s) := by
  unfold sFa at h
  repeat' (split at h)
  all_goals first
    | (cases h; done)
    | (cases h; rfl)
theorem sLens_ok {x s : S} (h : sLens x = .ok s) : vLens (den σ x) = some (den σ s) := by
  unfold sLens at h
  repeat' (split at h)
  all_goals first
    | (cases h; done)
    | (cases h; rfl)
theorem sIa_ok (hs : Sat σ pc) {esz : Nat} {x i s : S} (h : sIa esz x i pc = .ok s) : vIa esz (den σ x) (den σ i) = some (den σ s) := by
  unfold sIa at h
  split at h
  · split at h
    · split at h
      · split at h
        · split at h
          · rename_i hb
            cases h
            have hb := Nat.le_of_ble_eq_true hb
            simp only [den, vIa, SX.ev]
            rw [if_pos ⟨Int.natCast_nonneg _, by simp only [Int.ofNat_eq_natCast]; omega⟩]
            rfl
          · cases h
        · cases h
      · exact via2_ok hs h
    · cases h
  · cases h
theorem sIaa_ok (hs : Sat σ pc) {esz len : Nat} {x i s : S} (h : sIaa esz len x i pc = .ok s) : vIaa esz len (den σ x) (den σ i) = some (den σ s) := by
  unfold sIaa at h
  split at h
  · split at h
    · split at h
      split at h
      · split at h
        · split at h
          · split at h
            · rename_i hb
              cases h
              have hb := Nat.le_of_ble_eq_true hb
              simp only [den, vIaa, SX.ev]
              rw [if_pos ⟨Int.natCast_nonneg _, by simp only [Int.ofNat_eq_natCast]; omega⟩]
              rfl
            · cases h
          · cases h
        · exact via2_ok hs h
      · cases h
    · cases h
  · cases h
theorem eqA_ok (hs : Sat σ pc) {k : K} {x y : S} {r : Bool} (h : eqA k x y pc = .ok r) : eqAtom k (den σ x) (den σ y) = some r := by
  unfold eqA at h
  split at h
  · split at h
    · rename_i hk
      have := cmpA_ok hs h
      simp only [den, eqAtom, if_pos hk]
      rw [← this]; rfl
    · cases h
  · obtain ⟨v, h1, h2⟩ := Res.bind_ok h
    obtain ⟨u, h3, h4⟩ := Res.bind_ok h2
    rw [← nb_ok hs x, ← nb_ok hs y, litV_ok hs h1, litV_ok hs h3]; exact oR_ok h4
theorem eqL_ok (hs : Sat σ pc) : ∀ {ks : List K} {a b : List S} {r : Bool}, eqL ks a b pc = .ok r → eqList ks (dens σ a) (dens σ b) = some r
  | [], [], [], r, h => by cases h; rfl
  | k :: ks, x :: a, y :: b, r, h => by
    obtain ⟨p, h1, h2⟩ := Res.bind_ok h
    obtain ⟨q, h3, h4⟩ := Res.bind_ok h2
    cases h4
    simp only [dens, eqList, eqA_ok hs h1, eqL_ok hs h3]
  | [], [], _ :: _, _, h => by cases h
  | [], _ :: _, _, _, h => by cases h
  | _ :: _, [], _, _, h => by cases h
  | _ :: _, _ :: _, [], _, h => by cases h
theorem sEqa_ok (hs : Sat σ pc) {neg : Bool} {ks : List K} {x y s : S} (h : sEqa neg ks x y pc = .ok s) : vEqa neg ks (den σ x) (den σ y) = some (den σ s) := by
  unfold sEqa at h
  split at h
  · obtain ⟨r, h1, h2⟩ := Res.bind_ok h
    cases h2
    simp only [den, vEqa, eqL_ok hs h1]
  · cases h
theorem sUn_ok (hs : Sat σ pc) {o : UnOp} {x s : S} (h : sUn o x pc = .ok s) : un o (den σ x) = some (den σ s) := by
  unfold sUn at h
  split at h
  · cases h; rfl
  · cases h
    rename_i a n
    simp only [den, un]
    cases a.ev σ <;> cases n <;> rfl
  · obtain ⟨z, h3, rfl⟩ := sI_ok h
    have := arith_ok hs h3
    simp only [binI] at this
    simp only [den, un]
    exact this
  · exact via1_ok hs h
theorem sCvi_ok (hs : Sat σ pc) {k : IntKind} {x s : S} (h : sCvi k x pc = .ok s) : vCvi k (den σ x) = some (den σ s) := by
  unfold sCvi at h
  split at h
  · split at h
    · cases h; simp only [den, vCvi, SX.ev, wrapF_eq]
    · obtain ⟨z, h3, rfl⟩ := sI_ok h
      simp only [den, vCvi, cviX_ok hs h3]
  · cases h
theorem sNilc_ok {x s : S} (h : sNilc x = .ok s) : vNilc (den σ x) = some (den σ s) := by
  unfold sNilc at h
  split at h <;> cases h <;> rfl
theorem part_den (agg : Bool) (l : List S) (off n : Nat) : Mx.part agg (dens σ l) off n = (partS agg l off n).map (den σ) := by
  unfold Mx.part partS
  cases agg with
  | true =>
    simp only [if_true, dens_length]
    split
    · simp only [Option.map_some, den, dens_take, dens_drop]
    · rfl
  | false => simp only [Bool.false_eq_true, if_false]; exact dens_get _ _
theorem sFld_ok {agg : Bool} {off n : Nat} {x s : S} (h : sFld agg off n x = .ok s) : vFld agg off n (den σ x) = some (den σ s) := by
  unfold sFld at h
  split at h
  · simp only [den, vFld, part_den, oR_ok h, Option.map_some]
  · cases h
theorem sIxa_ok (hs : Sat σ pc) {agg : Bool} {n len : Nat} {x i s : S} (h : sIxa agg n len x i pc = .ok s) : vIxa agg n len (den σ x) (den σ i) = some (den σ s) := by
  unfold sIxa at h
  split at h
  · obtain ⟨j, h1, h2⟩ := Res.bind_ok h
    simp only [den, vIxa, litOf_ok hs h1]
    split at h2
    · rename_i hc
      rw [if_pos hc, part_den, oR_ok h2, Option.map_some]
    · cases h2
  · cases h
theorem sSls_ok (hs : Sat σ pc) {esz : Nat} {x s : S} {lo hi mx : Option S} (h : sSls esz x lo hi mx pc = .ok s) : slcut esz (den σ x) (lo.map (den σ)) (hi.map (den σ)) (mx.map (den σ)) = some (den σ s) := by
  obtain ⟨x', h1, h⟩ := Res.bind_ok h
  obtain ⟨l', h2, h⟩ := Res.bind_ok h
  obtain ⟨h', h3, h⟩ := Res.bind_ok h
  obtain ⟨m', h4, h⟩ := Res.bind_ok h
  rw [litV_ok hs h1, litO_ok hs h2, litO_ok hs h3, litO_ok hs h4]; exact oV_ok h
theorem sSla_ok (hs : Sat σ pc) {esz len : Nat} {x s : S} {lo hi mx : Option S} (h : sSla esz len x lo hi mx pc = .ok s) : vSla esz len (den σ x) (lo.map (den σ)) (hi.map (den σ)) (mx.map (den σ)) = some (den σ s) := by
  obtain ⟨x', h1, h⟩ := Res.bind_ok h
  obtain ⟨l', h2, h⟩ := Res.bind_ok h
  obtain ⟨h', h3, h⟩ := Res.bind_ok h
  obtain ⟨m', h4, h⟩ := Res.bind_ok h
  rw [litV_ok hs h1, litO_ok hs h2, litO_ok hs h3, litO_ok hs h4]; exact oV_ok h
theorem sSlt_ok (hs : Sat σ pc) {x s : S} {lo hi : Option S} (h : sSlt x lo hi pc = .ok s) : vSlt (den σ x) (lo.map (den σ)) (hi.map (den σ)) = some (den σ s) := by
  obtain ⟨x', h1, h⟩ := Res.bind_ok h
  obtain ⟨l', h2, h⟩ := Res.bind_ok h
  obtain ⟨h', h3, h⟩ := Res.bind_ok h
  rw [litV_ok hs h1, litO_ok hs h2, litO_ok hs h3]; exact oV_ok h
theorem sExt_ok {x s : S} {i : Nat} (h : sExt x i = .ok s) : vExt (den σ x) i = some (den σ s) := by
  unfold sExt at h
  split at h
  · simp only [den, vExt, dens_get, oR_ok h, Option.map_some]
  · cases h
def denP (σ : Nat → Int) : List (Nat × Nat × S) → List (Nat × Nat × V)
  | [] => []
  | p :: l => (p.1, p.2.1, den σ p.2.2) :: denP σ l
theorem fill_den : ∀ (parts : List (Nat × Nat × S)) (cells : List S), fill (dens σ cells) (denP σ parts) = (fillS cells parts).map (dens σ)
  | [], cells => rfl
  | (off, size, v) :: rest, cells => by
    simp only [denP, fill, fillS, cells_den, dens_length]
    split
    · rfl
    · rw [lay_dens]; exact fill_den rest _
theorem sBld_ok {z : List V} {parts : List (Nat × Nat × S)} {s : S} (h : sBld z parts = .ok s) : vBld z (denP σ parts) = some (den σ s) := by
  unfold sBld at h
  split at h
  · rename_i l hl
    cases h
    have := fill_den (σ := σ) parts (ofVs z)
    rw [dens_ofVs, hl] at this
    simp only [vBld, this, Option.map_some, den]
  · cases h
theorem sMin2_ok (hs : Sat σ pc) {x y s : S} (h : sMin2 pc x y = .ok s) : min2 (den σ x) (den σ y) = some (den σ s) := by
  unfold sMin2 at h
  split at h
  · obtain ⟨r, h1, h2⟩ := Res.bind_ok h
    cases h2
    rename_i k a _ b
    have := cmpA_ok hs h1
    rw [CK.at_ev] at this
    simp only at this
    simp only [den, min2]
    cases r with
    | true => simp only [decide_eq_true_eq] at this; rw [if_pos this]; rfl
    | false => simp only [decide_eq_false_iff_not] at this; rw [if_neg this]; rfl
  · cases h
theorem sMax2_ok (hs : Sat σ pc) {x y s : S} (h : sMax2 pc x y = .ok s) : max2 (den σ x) (den σ y) = some (den σ s) := by
  unfold sMax2 at h
  split at h
  · obtain ⟨r, h1, h2⟩ := Res.bind_ok h
    cases h2
    rename_i k a _ b
    have := cmpA_ok hs h1
    rw [CK.at_ev] at this
    simp only at this
    simp only [den, max2]
    cases r with
    | true => simp only [decide_eq_true_eq] at this; rw [if_pos (by omega)]; rfl
    | false => simp only [decide_eq_false_iff_not] at this; rw [if_neg (by omega)]; rfl
  · cases h
theorem sFold_ok {f : S → S → Res S} {g : V → V → Option V} (hf : ∀ x y s, f x y = .ok s → g (den σ x) (den σ y) = some (den σ s)) : ∀ (l : List S) (x s : S), sFold f x l = .ok s → foldO g (den σ x) (dens σ l) = some (den σ s)
  | [], x, s, h => by cases h; rfl
  | y :: l, x, s, h => by
    obtain ⟨z, h1, h2⟩ := Res.bind_ok h
    simp only [dens, foldO, hf _ _ _ h1]
    exact sFold_ok hf l z s h2
theorem sMin_ok (hs : Sat σ pc) {x s : S} {l : List S} (h : sMin x l pc = .ok s) : foldO min2 (den σ x) (dens σ l) = some (den σ s) := sFold_ok (fun _ _ _ => sMin2_ok hs) _ _ _ h
theorem sMax_ok (hs : Sat σ pc) {x s : S} {l : List S} (h : sMax x l pc = .ok s) : foldO max2 (den σ x) (dens σ l) = some (den σ s) := sFold_ok (fun _ _ _ => sMax2_ok hs) _ _ _ h
end
abbrev SR := Res (S × SH)
def sBox (v : S) (h : SH) : SR := if v.cells.all S.one then .ok (.p (some (h.nx, 0)), h.new ⟨false, v.cells⟩) else .no
def sZero (z : List V) (h : SH) : SR := .ok (.p (some (h.nx, 0)), h.new ⟨false, ofVs z⟩)
def sNewSl (len : Nat) (cells : List V) (parts : List (Nat × Nat × S)) (h : SH) : SR := match fillS (ofVs cells) parts with
  | some l => .ok (.sl h.nx 0 len (.ex len), h.new ⟨false, l⟩)
  | none => .no
def sMake (bytes : Nat) (z : List V) (len : S) (h : SH) : SR := (litV h.pc len).bind fun v => match v with
  | .i _ n => if 0 ≤ n ∧ n.toNat * bytes ≤ room ∧ n ≤ 9223372036854775807 then
      .ok (.sl h.nx 0 n.toNat (.ex n.toNat), h.new ⟨false, ofVs (zrep z n.toNat)⟩) else .no
  | _ => .no
def sLdA (n : Nat) (a : S) (h : SH) : Res S := match a with
  | .p (some (id, off)) => match h.load id off n with
    | some l => .ok (.agg l)
    | none => .no
  | _ => .no
def sLd1 (a : S) (h : SH) : Res S := match a with
  | .p (some (id, off)) => oR (h.at id off)
  | _ => .no
def sLd (agg : Bool) (n : Nat) (a : S) (h : SH) : Res S := match agg with
  | true => sLdA n a h
  | false => sLd1 a h
def undefS : S := .tup []
def sStore (n : Nat) (a x : S) (h : SH) : SR := match a with
  | .p (some (id, off)) => if x.cells.length = n then match h.store id off x.cells with
      | some h' => .ok (undefS, h')
      | none => .no
    else .no
  | _ => .no
def srcS (esz : Nat) (h : SH) : S → Option (List S)
  | .sl id off len _ => h.load id off (len * esz)
  | .nsl => some []
  | .es _ => some []
  | .so _ _ _ => some []
  | _ => none
def lenS : S → Option Nat
  | .sl _ _ n _ => some n
  | .nsl => some 0
  | .es _ => some 0
  | .so _ _ _ => some 0
  | _ => none
def S.isSl : S → Bool
  | .sl _ _ _ _ => true
  | .nsl => true
  | .es _ => true
  | .so _ _ _ => true
  | _ => false
def appOp (esz bytes : Nat) (h : SH) (id off len e n : Nat) (new : List S) : Option (S × SH) :=
  if e ≠ esz then none else
  match h.get id with
  | some o =>
    if o.ro = true then none else
    if off + (len + n) * esz ≤ o.c.length then
      match h.store id (off + len * esz) new with
      | some h' => some (.sl id off (len + n) (.op e), h')
      | none => none
    else if (len + n) * bytes * 2 ≤ room ∧ len + n ≤ room ∧ new.all S.one = true then
      match h.load id off (len * esz) with
      | some old => some (.sl h.nx 0 (len + n) (.op esz), (h.kill id).new ⟨false, old ++ new⟩)
      | none => none
    else none
  | none => none
def append1S (esz bytes : Nat) (h : SH) (s : S) (n : Nat) (new : List S) : Option (S × SH) :=
  if n = 0 then (if s.isSl = true then some (s, h) else none) else
  match s with
  | .nsl => if n * bytes * 2 ≤ room ∧ n ≤ room then some (.sl h.nx 0 n (.op esz), h.new ⟨false, new⟩) else none
  | .es z => if z = true ∧ n * bytes * 2 ≤ room ∧ n ≤ room then some (.sl h.nx 0 n (.op esz), h.new ⟨false, new⟩) else none
  | .sl id off len (.ex cap) =>
    if len + n ≤ cap then
      match h.store id (off + len * esz) new with
      | some h' => some (.sl id off (len + n) (.ex cap), h')
      | none => none
    else if (len + n) * bytes * 2 ≤ room ∧ len + n ≤ room then
      match h.load id off (len * esz) with
      | some old => some (.sl h.nx 0 (len + n) (.op esz), h.new ⟨false, old ++ new⟩)
      | none => none
    else none
  | .sl id off len (.op e) => appOp esz bytes h id off len e n new
  | .sl id off len (.ol _ e) => appOp esz bytes h id off len e n new
  | .so id off e => appOp esz bytes h id off 0 e n new
  | _ => none
def sApp (esz bytes : Nat) (s x : S) (h : SH) : SR := match lenS x, srcS esz h x with
  | some n, some new => oR (append1S esz bytes h s n new)
  | _, _ => .no
def sAppz (esz bytes : Nat) (z : List V) (s n : S) (h : SH) : SR := (litV h.pc n).bind fun v => match v with
  | .i .i64 m => if m = 0 then (if s.isSl = true then .ok (s, h) else .no) else
    match s with
    | .nsl => if 0 < m ∧ m.toNat * bytes * 2 ≤ room ∧ m.toNat ≤ room then .ok (.sl h.nx 0 m.toNat (.op esz), h.new ⟨false, ofVs (zrep z m.toNat)⟩) else .no
    | _ => .no
  | _ => .no
def sClear (z : List V) (x : S) (h : SH) : SR := match x with
  | .sl id off n _ => if n = 0 then .ok (undefS, h) else match h.store id off (ofVs (zrep z n)) with
    | some h' => .ok (undefS, h')
    | none => .no
  | .nsl => .ok (undefS, h)
  | .es _ => .ok (undefS, h)
  | .so _ _ _ => .ok (undefS, h)
  | _ => .no
def sCopy (esz : Nat) (d x : S) (h : SH) : SR := match lenS d, lenS x, srcS esz h x with
  | some m, some n, some l => match d with
    | .sl id off _ _ => match h.store id off (l.take (Nat.min n m * esz)) with
      | some h' => .ok (.i .i64 (.lit (Nat.min n m : Nat)), h')
      | none => .no
    | _ => if m = 0 then .ok (.i .i64 (.lit 0), h) else .no
  | _, _, _ => .no
def bytesS (pc : PC) : List S → Res (List Int)
  | [] => .ok []
  | .i .u8 n :: l => (litOf pc n).bind fun n => (bytesS pc l).bind fun r => .ok (n :: r)
  | _ => .no
def sBtos (x : S) (h : SH) : SR := match srcS 1 h x with
  | some l => (bytesS h.pc l).bind fun b => .ok (.s (b.foldl (fun r n => r.push (UInt8.ofNat n.toNat)) ByteArray.empty), h)
  | none => .no
def sStob (x : S) (h : SH) : SR := match x with
  | .s t => if t.size * 2 ≤ room then .ok (.sl h.nx 0 t.size (.op 1), h.new ⟨true, ofVs (t.toList.map fun c => .i .u8 c.toNat)⟩) else .no
  | _ => .no
section
variable {σ : Nat → Int} {h : SH}
def HOk (σ : Nat → Int) (h : SH) (r : S × SH) (o : Option (V × H)) : Prop := o = some (den σ r.1, denH σ r.2) ∧ r.2.pc = h.pc
theorem sBox_ok {v : S} {r : S × SH} (e : sBox v h = .ok r) : HOk σ h r (vBox (den σ v) (denH σ h)) := by
  unfold sBox at e
  split at e
  · rename_i hc
    cases e
    refine ⟨?_, rfl⟩
    unfold vBox
    rw [cells_den, all_one_den, if_pos hc, new_den]; rfl
  · cases e
theorem sZero_ok {z : List V} {r : S × SH} (e : sZero z h = .ok r) : HOk σ h r (some (.p (some ((denH σ h).nx, 0)), (denH σ h).new { ro := false, c := z })) := by
  cases e
  refine ⟨?_, rfl⟩
  rw [new_den]
  simp only [denO, dens_ofVs]; rfl
theorem sNewSl_ok {len : Nat} {cells : List V} {parts : List (Nat × Nat × S)} {r : S × SH} (e : sNewSl len cells parts h = .ok r) : HOk σ h r (vNewSl len cells (denP σ parts) (denH σ h)) := by
  unfold sNewSl at e
  split at e
  · rename_i l hl
    cases e
    refine ⟨?_, rfl⟩
    have := fill_den (σ := σ) parts (ofVs cells)
    rw [dens_ofVs, hl] at this
    simp only [vNewSl, this, Option.map_some, new_den]; rfl
  · cases e
theorem sMake_ok (hs : Sat σ h.pc) {bytes : Nat} {z : List V} {len : S} {r : S × SH} (e : sMake bytes z len h = .ok r) : HOk σ h r (vMake bytes z (den σ len) (denH σ h)) := by
  obtain ⟨v, h1, h2⟩ := Res.bind_ok e
  rw [litV_ok hs h1]
  split at h2
  · split at h2
    · rename_i hc
      cases h2
      refine ⟨?_, rfl⟩
      simp only [vMake, if_pos hc, new_den, denO, dens_ofVs]; rfl
    · cases h2
  · cases h2
theorem sLdA_ok {n : Nat} {a s : S} (e : sLdA n a h = .ok s) : vLdA (denH σ h) n (den σ a) = some (den σ s) := by
  unfold sLdA at e
  split at e
  · split at e
    · rename_i l hl
      cases e
      simp only [den, vLdA, load_den, hl, Option.map_some]
    · cases e
  · cases e
theorem sLd1_ok {a s : S} (e : sLd1 a h = .ok s) : vLd1 (denH σ h) (den σ a) = some (den σ s) := by
  unfold sLd1 at e
  split at e
  · simp only [den, vLd1, at_den, oR_ok e, Option.map_some]
  · cases e
theorem sLd_ok {agg : Bool} {n : Nat} {a s : S} (e : sLd agg n a h = .ok s) : vLd (denH σ h) agg n (den σ a) = some (den σ s) := by
  cases agg with
  | true => exact sLdA_ok e
  | false => exact sLd1_ok e
theorem sStore_ok {n : Nat} {a x : S} {r : S × SH} (e : sStore n a x h = .ok r) : HOk σ h r (vStore (denH σ h) n (den σ a) (den σ x)) := by
  unfold sStore at e
  split at e
  · split at e
    · rename_i hc
      split at e
      · rename_i h' hh
        cases e
        refine ⟨?_, store_pc hh⟩
        simp only [den, vStore, cells_den, dens_length, if_pos hc, store_den, hh, Option.map_some]; rfl
      · cases e
    · cases e
  · cases e
theorem src_den {esz : Nat} (x : S) : source esz (denH σ h) (den σ x) = (srcS esz h x).map (dens σ) := by
  cases x <;> first | rfl | exact load_den _ _ _ _
theorem len_den (x : S) : lenV (den σ x) = lenS x := by cases x <;> rfl
theorem isSl_den (x : S) : (den σ x).isSl = x.isSl := by cases x <;> rfl
theorem appOp_ok {esz bytes id off len e n : Nat} {new : List S} {r : S × SH} (hr : appOp esz bytes h id off len e n new = some r) (hn : ¬ n = 0) : HOk σ h r (append1 esz bytes (denH σ h) (.sl id off len (.op e)) n (dens σ new)) := by
  unfold appOp at hr
  unfold append1
  rw [if_neg hn]
  simp only
  split at hr
  · cases hr
  · rename_i he
    rw [if_neg he, get_den]
    split at hr
    · rename_i o ho
      rw [ho]
      simp only [Option.map_some, denO, dens_length, all_one_den]
      split at hr
      · cases hr
      · rename_i hro
        rw [if_neg hro]
        split at hr
        · rename_i hc
          rw [if_pos hc, store_den]
          split at hr
          · rename_i h' hh
            cases hr
            rw [hh]; exact ⟨rfl, store_pc hh⟩
          · cases hr
        · rename_i hc
          rw [if_neg hc]
          split at hr
          · rename_i hc2
            rw [if_pos hc2, load_den]
            split at hr
            · rename_i old hold
              cases hr
              rw [hold]
              refine ⟨?_, rfl⟩
              simp only [Option.map_some, new_den, kill_den, denO, dens_append]; rfl
            · cases hr
          · cases hr
    · cases hr
theorem append1_so {esz bytes id off e n : Nat} {h : H} {new : List V} (hn : ¬ n = 0) : append1 esz bytes h (.so id off e) n new = append1 esz bytes h (.sl id off 0 (.op e)) n new := by
  unfold append1
  rw [if_neg hn, if_neg hn]
theorem append1_ol {esz bytes id off len kn e n : Nat} {h : H} {new : List V} (hn : ¬ n = 0) : append1 esz bytes h (.sl id off len (.ol kn e)) n new = append1 esz bytes h (.sl id off len (.op e)) n new := by
  unfold append1
  rw [if_neg hn, if_neg hn]
theorem append1S_ok {esz bytes n : Nat} {s : S} {new : List S} {r : S × SH} (e : append1S esz bytes h s n new = some r) : HOk σ h r (append1 esz bytes (denH σ h) (den σ s) n (dens σ new)) := by
  unfold append1S at e
  split at e
  · rename_i hn
    unfold append1
    rw [if_pos hn]
    split at e
    · rename_i hsl
      cases e
      rw [isSl_den, if_pos hsl]; exact ⟨rfl, rfl⟩
    · cases e
  · rename_i hn
    split at e
    · unfold append1
      rw [if_neg hn]
      simp only [den]
      split at e
      · rename_i hc
        cases e
        rw [if_pos hc]
        refine ⟨?_, rfl⟩
        rw [new_den]; rfl
      · cases e
    · unfold append1
      rw [if_neg hn]
      simp only [den]
      split at e
      · rename_i hc
        cases e
        rw [if_pos hc]
        refine ⟨?_, rfl⟩
        rw [new_den]; rfl
      · cases e
    · unfold append1
      rw [if_neg hn]
      simp only [den]
      split at e
      · rename_i hc
        rw [if_pos hc, store_den]
        split at e
        · rename_i h' hh
          cases e
          rw [hh]; exact ⟨rfl, store_pc hh⟩
        · cases e
      · rename_i hc
        rw [if_neg hc]
        split at e
        · rename_i hc2
          rw [if_pos hc2, load_den]
          split at e
          · rename_i old hold
            cases e
            rw [hold]
            refine ⟨?_, rfl⟩
            simp only [Option.map_some, new_den, denO, dens_append]; rfl
          · cases e
        · cases e
    · exact appOp_ok e hn
    · simp only [den]
      rw [append1_ol hn]
      exact appOp_ok e hn
    · simp only [den]
      rw [append1_so hn]
      exact appOp_ok e hn
    · cases e
theorem sApp_ok {esz bytes : Nat} {s x : S} {r : S × SH} (e : sApp esz bytes s x h = .ok r) : HOk σ h r (vApp esz bytes (den σ s) (den σ x) (denH σ h)) := by
  unfold sApp at e
  split at e
  · rename_i n new hn hnew
    simp only [vApp, len_den, src_den, hn, hnew, Option.map_some]
    exact append1S_ok (oR_ok e)
  · cases e
theorem sAppz_ok (hs : Sat σ h.pc) {esz bytes : Nat} {z : List V} {s n : S} {r : S × SH} (e : sAppz esz bytes z s n h = .ok r) : HOk σ h r (appz1 esz bytes z (denH σ h) (den σ s) (den σ n)) := by
  obtain ⟨v, h1, h2⟩ := Res.bind_ok e
  rw [litV_ok hs h1]
  unfold appz1
  split at h2
  · rename_i m
    simp only
    split at h2
    · rename_i hm
      rw [if_pos hm, isSl_den]
      split at h2
      · rename_i hsl; cases h2; rw [if_pos hsl]; exact ⟨rfl, rfl⟩
      · cases h2
    · rename_i hm
      rw [if_neg hm]
      split at h2
      · simp only [den]
        split at h2
        · rename_i hc
          cases h2
          rw [if_pos hc]
          refine ⟨?_, rfl⟩
          simp only [new_den, denO, dens_ofVs]; rfl
        · cases h2
      · cases h2
  · cases h2
theorem sClear_ok {z : List V} {x : S} {r : S × SH} (e : sClear z x h = .ok r) : HOk σ h r (vClear z (den σ x) (denH σ h)) := by
  unfold sClear at e
  split at e
  · rename_i id off n c
    simp only [den, vClear]
    split at e
    · rename_i hc; cases e; rw [if_pos hc]; exact ⟨rfl, rfl⟩
    · rename_i hc
      rw [if_neg hc]
      split at e
      · rename_i h' hh
        cases e
        have := store_den (σ := σ) h id off (ofVs (zrep z n))
        rw [dens_ofVs, hh] at this
        rw [this]; exact ⟨rfl, store_pc hh⟩
      · cases e
  · cases e; exact ⟨rfl, rfl⟩
  · cases e; exact ⟨rfl, rfl⟩
  · cases e; exact ⟨rfl, rfl⟩
  · cases e
theorem sCopy_ok {esz : Nat} {d x : S} {r : S × SH} (e : sCopy esz d x h = .ok r) : HOk σ h r (vCopy esz (den σ d) (den σ x) (denH σ h)) := by
  unfold sCopy at e
  split at e
  · rename_i m n l hm hn hl
    simp only [vCopy, len_den, src_den, hm, hn, hl, Option.map_some]
    split at e
    · split at e
      · rename_i h' hh
        cases e
        simp only [den]
        rw [← dens_take, store_den, hh]
        exact ⟨rfl, store_pc hh⟩
      · cases e
    · rename_i hd
      split at e
      · rename_i hc
        cases e
        cases d <;> simp only [den] <;> first | exact (hd _ _ _ _ rfl).elim | (rw [if_pos hc]; exact ⟨rfl, rfl⟩)
      · cases e
  · cases e
theorem bytesS_ok {pc : PC} (hs : Sat σ pc) : ∀ {l : List S} {b : List Int}, bytesS pc l = .ok b → bytesOf (dens σ l) = some b
  | [], b, h => by cases h; rfl
  | x :: l, b, h => by
    unfold bytesS at h
    split at h
    · rename_i heq; cases heq
    · rename_i n l' heq
      cases heq
      obtain ⟨m, h1, h2⟩ := Res.bind_ok h
      obtain ⟨r, h3, h4⟩ := Res.bind_ok h2
      cases h4
      simp only [dens, den, bytesOf, bytesS_ok hs h3, litOf_ok hs h1]
    · cases h
theorem sBtos_ok (hs : Sat σ h.pc) {x : S} {r : S × SH} (e : sBtos x h = .ok r) : HOk σ h r (vBtos (den σ x) (denH σ h)) := by
  unfold sBtos at e
  split at e
  · rename_i l hl
    obtain ⟨b, h1, h2⟩ := Res.bind_ok e
    cases h2
    simp only [vBtos, src_den, hl, Option.map_some, bytesS_ok hs h1]
    exact ⟨rfl, rfl⟩
  · cases e
theorem sStob_ok {x : S} {r : S × SH} (e : sStob x h = .ok r) : HOk σ h r (vStob (den σ x) (denH σ h)) := by
  unfold sStob at e
  split at e
  · split at e
    · rename_i hc
      cases e
      refine ⟨?_, rfl⟩
      simp only [den, vStob, if_pos hc, new_den, denO, dens_ofVs]; rfl
    · cases e
  · cases e
end
end
end Sx
