import Derived.Test.YthackiallbgeaaaGreatDoorMxS
namespace Mx
open Go
class Gn where
  g : Nat
variable [Gn]
def mv (d i : Nat) : Nat := if i < Gn.g then i else i + d
theorem mv_inj {d i j : Nat} : mv d i = mv d j ↔ i = j := by
  unfold mv; split <;> split <;> omega
theorem mv_new {d i : Nat} (h : Gn.g ≤ i) : mv d i = i + d := by
  unfold mv; rw [if_neg (by omega)]
mutual
def rn (d : Nat) : V → V
  | .p (some (i, o)) => .p (some (mv d i, o))
  | .sl i o l c => .sl (mv d i) o l c
  | .so i o e => .so (mv d i) o e
  | .fn f l => .fn f (rns d l)
  | .agg l => .agg (rns d l)
  | .tup l => .tup (rns d l)
  | v => v
def rns (d : Nat) : List V → List V
  | [] => []
  | x :: l => rn d x :: rns d l
end
mutual
def V.bare : V → Bool
  | .p (some _) => false
  | .sl _ _ _ _ => false
  | .so _ _ _ => false
  | .fn _ l => V.bares l
  | .agg l => V.bares l
  | .tup l => V.bares l
  | _ => true
def V.bares : List V → Bool
  | [] => true
  | x :: l => V.bare x && V.bares l
end
section
variable {d : Nat}
theorem rns_map : ∀ l : List V, rns d l = l.map (rn d)
  | [] => rfl
  | x :: l => by simp only [rns, List.map_cons, rns_map l]
@[simp] theorem rns_length (l : List V) : (rns d l).length = l.length := by simp [rns_map]
theorem rns_append (a b : List V) : rns d (a ++ b) = rns d a ++ rns d b := by simp [rns_map]
theorem rns_take (n : Nat) (a : List V) : rns d (a.take n) = (rns d a).take n := by simp [rns_map]
theorem rns_drop (n : Nat) (a : List V) : rns d (a.drop n) = (rns d a).drop n := by simp [rns_map]
theorem rns_lay (l : List V) (off : Nat) (xs : List V) : lay (rns d l) off (rns d xs) = rns d (lay l off xs) := by
  simp only [lay, rns_append, rns_take, rns_drop, rns_length]
theorem rns_cut (l : List V) (off n : Nat) : cut (rns d l) off n = (cut l off n).map (rns d) := by
  simp only [cut, rns_length]
  split
  · simp only [Option.map_some, rns_take, rns_drop]
  · rfl
@[simp] theorem rn_one (v : V) : (rn d v).one = v.one := by
  cases v with
  | p a => cases a <;> rfl
  | _ => rfl
theorem rns_one (l : List V) : (rns d l).all V.one = l.all V.one := by
  simp only [rns_map, List.all_map]
  congr 1
  funext v
  simp [Function.comp]
@[simp] theorem rn_cells (v : V) : (rn d v).cells = rns d v.cells := by
  cases v with
  | p a => cases a <;> rfl
  | _ => rfl
@[simp] theorem rn_isSl (v : V) : (rn d v).isSl = v.isSl := by
  cases v with
  | p a => cases a <;> rfl
  | _ => rfl
def rnO (d : Nat) (o : O) : O := { o with c := rns d o.c }
structure Sh (d : Nat) (h0 h h' : H) : Prop where
  nx : h'.nx = mv d h.nx
  ge : Gn.g ≤ h.nx
  get : ∀ id, id < h.nx → h'.get (mv d id) = (h.get id).map (rnO d)
  low : ∀ id, Gn.g ≤ id → id < Gn.g + d → h'.get id = h0.get id
  none : ∀ id, h.nx ≤ id → h.get id = none
variable {h0 h h' : H}
theorem Sh.lt (s : Sh d h0 h h') {id : Nat} {o : O} (e : h.get id = some o) : id < h.nx := by
  apply Nat.lt_of_not_le
  intro hl
  rw [s.none id hl] at e; cases e
theorem Sh.at (s : Sh d h0 h h') {id : Nat} {o : O} (e : h.get id = some o) : h'.get (mv d id) = some (rnO d o) := by
  rw [s.get id (s.lt e), e]; rfl
theorem Sh.new (s : Sh d h0 h h') (o : O) : Sh d h0 (h.new o) (h'.new (rnO d o)) := by
  have hge := s.ge
  have hn := mv_new (d := d) hge
  have hn1 := mv_new (d := d) (show Gn.g ≤ h.nx + 1 by omega)
  refine ⟨by simp only [H.nx_new, s.nx, hn, hn1]; omega, by simp only [H.nx_new]; omega, ?_, ?_, ?_⟩
  · intro id hid
    simp only [H.nx_new] at hid
    rw [H.get_new, H.get_new, s.nx]
    by_cases e : id = h.nx
    · subst e; simp
    · rw [if_neg (fun x => e (mv_inj.1 x)), if_neg e]; exact s.get id (by omega)
  · intro id hid hid2
    rw [H.get_new, if_neg (by rw [s.nx, hn]; omega)]; exact s.low id hid hid2
  · intro id hid
    simp only [H.nx_new] at hid
    rw [H.get_new, if_neg (by omega)]; exact s.none id (by omega)
theorem Sh.put (s : Sh d h0 h h') {id : Nat} (hid : id < h.nx) (o : Option O) : Sh d h0 (h.put id o) (h'.put (mv d id) (o.map (rnO d))) := by
  refine ⟨by simp only [H.nx_put]; exact s.nx, by simp only [H.nx_put]; exact s.ge, ?_, ?_, ?_⟩
  · intro j hj
    simp only [H.nx_put] at hj
    rw [H.get_put, H.get_put]
    by_cases e : j = id
    · subst e; simp
    · rw [if_neg (fun x => e (mv_inj.1 x)), if_neg e]; exact s.get j hj
  · intro j hj hj2
    rw [H.get_put, if_neg (by unfold mv; split <;> omega)]; exact s.low j hj hj2
  · intro j hj
    simp only [H.nx_put] at hj
    rw [H.get_put, if_neg (by omega)]; exact s.none j hj
theorem Sh.load (s : Sh d h0 h h') {id off n : Nat} {l : List V} (e : h.load id off n = some l) : h'.load (mv d id) off n = some (rns d l) := by
  unfold H.load at e ⊢
  cases hg : h.get id with
  | none => rw [hg] at e; cases e
  | some o =>
    rw [hg] at e
    rw [s.at hg]
    simp only [rnO] at e ⊢
    rw [rns_cut, e]; rfl
theorem Sh.store (s : Sh d h0 h h') {id off : Nat} {xs : List V} {h1 : H} (e : h.store id off xs = some h1) : ∃ h1', h'.store (mv d id) off (rns d xs) = some h1' ∧ Sh d h0 h1 h1' := by
  unfold H.store at e ⊢
  cases hg : h.get id with
  | none => rw [hg] at e; cases e
  | some o =>
    rw [hg] at e
    rw [s.at hg]
    simp only [rnO, rns_length, rns_one] at e ⊢
    split at e
    · rename_i hc
      cases e
      rw [if_pos hc]
      refine ⟨_, rfl, ?_⟩
      have := s.put (s.lt hg) (some { o with c := lay o.c off xs })
      simp only [Option.map_some, rnO] at this
      rw [rns_lay]
      exact this
    · cases e
end
def Opd.bare : Opd → Bool
  | .c v => v.bare
  | .g n => decide (n < Gn.g)
  | _ => true
def oBare : Option Opd → Bool
  | some x => x.bare
  | none => true
def psBare (l : List (Nat × Nat × Opd)) : Bool := l.all fun p => p.2.2.bare
def PO.bare : PO → Bool
  | .mov x => x.bare
  | .pick c a b => c.bare && a.bare && b.bare
  | .bin _ x y => x.bare && y.bare
  | .eqz _ _ x y => x.bare && y.bare
  | .eqa _ _ x y => x.bare && y.bare
  | .un _ x => x.bare
  | .cvi _ x => x.bare
  | .fa _ x => x.bare
  | .nilc x => x.bare
  | .fld _ _ _ x => x.bare
  | .ixa _ _ _ x i => x.bare && i.bare
  | .ixs x i => x.bare && i.bare
  | .ia _ x i => x.bare && i.bare
  | .iaa _ _ x i => x.bare && i.bare
  | .sls _ x lo hi mx => x.bare && oBare lo && oBare hi && oBare mx
  | .sla _ _ x lo hi mx => x.bare && oBare lo && oBare hi && oBare mx
  | .slt x lo hi => x.bare && oBare lo && oBare hi
  | .mkf _ caps => caps.all Opd.bare
  | .ext x _ => x.bare
  | .bld z parts => V.bares z && psBare parts
  | .lens x => x.bare
  | .capn x => x.bare
  | .lent x => x.bare
  | .min x xs => x.bare && xs.all Opd.bare
  | .max x xs => x.bare && xs.all Opd.bare
def AO.bare : AO → Bool
  | .box x => x.bare
  | .zero z => V.bares z
  | .sl _ cells parts => V.bares cells && psBare parts
  | .mks _ z len => V.bares z && len.bare
def EO.bare : EO → Bool
  | .store _ a x => a.bare && x.bare
  | .call _ args => args.all Opd.bare
  | .callv x args => x.bare && args.all Opd.bare
  | .app _ _ s x => s.bare && x.bare
  | .appz _ _ z s x => V.bares z && (s.bare && x.bare)
  | .clear z x => V.bares z && x.bare
  | .copy _ a x => a.bare && x.bare
  | .btos x => x.bare
  | .stob x => x.bare
def Op.bare : Op → Bool
  | .pu o => o.bare
  | .al o => o.bare
  | .ld _ _ a => a.bare
  | .ef o => o.bare
def IC.bare : IC → Bool
  | .region l => l.all fun o => o.op.bare
  | .draw l _ => l.all fun o => o.op.bare
  | .seq a b => a.bare && b.bare
  | .cond c a b => c.bare && a.bare && b.bare
  | .block _ c => c.bare
  | .loop c => c.bare
  | _ => true
section
variable {d : Nat}
variable {h0 h h' : H}
end
section
variable {d : Nat} {h0 : H}
variable {C C' : Nat → List V → H → Option (V × H)}
def ShL (d : Nat) (h0 : H) : List (T × H) → List (T × H) → Prop
  | [], l => l = []
  | (ts, h) :: l, r => ∃ h' r', r = (rns d ts, h') :: r' ∧ Sh d h0 h h' ∧ ShL d h0 l r'
theorem ShL.get : ∀ {l r : List (T × H)}, ShL d h0 l r → ∀ (i : Nat) (ts : T) (h : H), l[i]? = some (ts, h) → ∃ h', r[i]? = some (rns d ts, h') ∧ Sh d h0 h h'
  | [], r, _, i, ts, h, e => by simp at e
  | (ts0, h1) :: l, r, s, i, ts, h, e => by
    obtain ⟨h', r', rfl, s1, s2⟩ := s
    cases i with
    | zero => simp at e; obtain ⟨rfl, rfl⟩ := e; exact ⟨h', rfl, s1⟩
    | succ i => simp only [List.getElem?_cons_succ] at e ⊢; exact s2.get i ts h e
def AllBare (IP : Nat → Option IFn) : Prop := ∀ f fn, IP f = some fn → fn.body.bare = true
def trBare : Tr IFn → Bool
  | .l => true
  | .n a v b => trBare a && (match v with | some fn => fn.body.bare | none => true) && trBare b
theorem allBare : ∀ (t : Tr IFn), trBare t = true → AllBare t.get
  | .l, _ => fun f fn e => by simp [Tr.get] at e
  | .n a v b, h => fun f fn e => by
    simp only [trBare, Bool.and_eq_true] at h
    simp only [Tr.get] at e
    split at e
    · subst e; exact h.1.2
    · split at e
      · exact allBare a h.1.1 _ fn e
      · exact allBare b h.2 _ fn e
end
instance noVar : Gn := ⟨0⟩
end Mx
