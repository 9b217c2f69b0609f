/-
  What runs in the empty heap runs in any: all numbers of rows are moved up, and what was there stays.
-/
import Derived.Test.YtonhcimkodgijaaMxS
namespace Mx
open Go

/-- so many numbers, of package variables, stay -/
class Gn where
  g : Nat
variable [Gn]
def mv (d i : Nat) : Nat := if i < Gn.g then i else i + d
theorem mv_inj {d i j : Nat} : mv d i = mv d j ↔ i = j := by
  unfold mv; split <;> split <;> omega
theorem mv_new {d i : Nat} (h : Gn.g ≤ i) : mv d i = i + d := by
  unfold mv; rw [if_neg (by omega)]
theorem mv_lt {d i j : Nat} : mv d i < mv d j ↔ i < j := by
  unfold mv; split <;> split <;> omega
theorem mv_le_iff {d i j : Nat} : mv d i ≤ mv d j ↔ i ≤ j := by
  unfold mv; split <;> split <;> omega
theorem mv_g {d i : Nat} (h : i < Gn.g) : mv d i = i := by
  unfold mv; rw [if_pos h]
theorem mv_le {d i n : Nat} (h : i < n) (hn : Gn.g ≤ n) : mv d i < n + d := by
  unfold mv; split <;> omega

mutual
def rn (d : Nat) : V → V
  | .p (some (i, o)) => .p (some (mv d i, o))
  | .sl i o l c => .sl (mv d i) o l c
  | .so i o e => .so (mv d i) o e
  | .fn f l => .fn f (rns d l)
  | .agg l => .agg (rns d l)
  | .tup l => .tup (rns d l)
  | v => v
def rns (d : Nat) : List V → List V
  | [] => []
  | x :: l => rn d x :: rns d l
end

mutual
/-- a value that points to nothing -/
def V.bare : V → Bool
  | .p (some _) => false
  | .sl _ _ _ _ => false
  | .so _ _ _ => false
  | .fn _ l => V.bares l
  | .agg l => V.bares l
  | .tup l => V.bares l
  | _ => true
def V.bares : List V → Bool
  | [] => true
  | x :: l => V.bare x && V.bares l
end

section
variable {d : Nat}
theorem rns_map : ∀ l : List V, rns d l = l.map (rn d)
  | [] => rfl
  | x :: l => by simp only [rns, List.map_cons, rns_map l]
mutual
theorem rn_bare : ∀ v : V, V.bare v = true → rn d v = v
  | .i _ _, _ => rfl
  | .b _, _ => rfl
  | .s _, _ => rfl
  | .p none, _ => rfl
  | .p (some _), h => by simp [V.bare] at h
  | .sl _ _ _ _, h => by simp [V.bare] at h
  | .nsl, _ => rfl
  | .es _, _ => rfl
  | .so _ _ _, h => by simp [V.bare] at h
  | .fn f l, h => by simp only [V.bare] at h; simp only [rn, rns_bare l h]
  | .nfn, _ => rfl
  | .agg l, h => by simp only [V.bare] at h; simp only [rn, rns_bare l h]
  | .tup l, h => by simp only [V.bare] at h; simp only [rn, rns_bare l h]
theorem rns_bare : ∀ l : List V, V.bares l = true → rns d l = l
  | [], _ => rfl
  | x :: l, h => by
    simp only [V.bares, Bool.and_eq_true] at h
    simp only [rns, rn_bare x h.1, rns_bare l h.2]
end
@[simp] theorem rns_length (l : List V) : (rns d l).length = l.length := by simp [rns_map]
theorem rns_append (a b : List V) : rns d (a ++ b) = rns d a ++ rns d b := by simp [rns_map]
theorem rns_take (n : Nat) (a : List V) : rns d (a.take n) = (rns d a).take n := by simp [rns_map]
theorem rns_drop (n : Nat) (a : List V) : rns d (a.drop n) = (rns d a).drop n := by simp [rns_map]
theorem rns_get (l : List V) (n : Nat) : (rns d l)[n]? = (l[n]?).map (rn d) := by simp [rns_map]
theorem rns_getD (l : List V) (n : Nat) : (rns d l).getD n undefV = rn d (l.getD n undefV) := by
  simp only [List.getD_eq_getElem?_getD, rns_get]
  cases l[n]? <;> rfl
theorem rns_set (l : List V) (n : Nat) (v : V) : (rns d l).set n (rn d v) = rns d (l.set n v) := by simp [rns_map, List.map_set]
theorem rns_lay (l : List V) (off : Nat) (xs : List V) : lay (rns d l) off (rns d xs) = rns d (lay l off xs) := by
  simp only [lay, rns_append, rns_take, rns_drop, rns_length]
theorem rns_cut (l : List V) (off n : Nat) : cut (rns d l) off n = (cut l off n).map (rns d) := by
  simp only [cut, rns_length]
  split
  · simp only [Option.map_some, rns_take, rns_drop]
  · rfl
@[simp] theorem rn_one (v : V) : (rn d v).one = v.one := by
  cases v with
  | p a => cases a <;> rfl
  | _ => rfl
theorem rns_one (l : List V) : (rns d l).all V.one = l.all V.one := by
  simp only [rns_map, List.all_map]
  congr 1
  funext v
  simp [Function.comp]
@[simp] theorem rn_cells (v : V) : (rn d v).cells = rns d v.cells := by
  cases v with
  | p a => cases a <;> rfl
  | _ => rfl
@[simp] theorem rn_isSl (v : V) : (rn d v).isSl = v.isSl := by
  cases v with
  | p a => cases a <;> rfl
  | _ => rfl
theorem rn_natIn (v : V) (m : Nat) : natIn (rn d v) m = natIn v m := by
  cases v with
  | p a => cases a <;> rfl
  | _ => rfl
theorem rn_capV (v : V) : capV (rn d v) = capV v := by
  cases v with
  | p q => cases q <;> rfl
  | sl a b n c => cases c <;> rfl
  | es z => cases z <;> rfl
  | _ => rfl
theorem rn_lenV (v : V) : lenV (rn d v) = lenV v := by
  cases v with
  | p a => cases a <;> rfl
  | _ => rfl
theorem rns_zrep {z : List V} (h : V.bares z = true) (n : Nat) : rns d (zrep z n) = zrep z n := by
  induction n with
  | zero => rfl
  | succ n ih => rw [zrepS, rns_append, rns_bare z h, ih]

def rnO (d : Nat) (o : O) : O := { o with c := rns d o.c }

/-- the same heap, moved up over another -/
structure Sh (d : Nat) (h0 h h' : H) : Prop where
  nx : h'.nx = mv d h.nx
  ge : Gn.g ≤ h.nx
  get : ∀ id, id < h.nx → h'.get (mv d id) = (h.get id).map (rnO d)
  low : ∀ id, Gn.g ≤ id → id < Gn.g + d → h'.get id = h0.get id
  none : ∀ id, h.nx ≤ id → h.get id = none

variable {h0 h h' : H}
theorem Sh.lt (s : Sh d h0 h h') {id : Nat} {o : O} (e : h.get id = some o) : id < h.nx := by
  apply Nat.lt_of_not_le
  intro hl
  rw [s.none id hl] at e; cases e
theorem Sh.at (s : Sh d h0 h h') {id : Nat} {o : O} (e : h.get id = some o) : h'.get (mv d id) = some (rnO d o) := by
  rw [s.get id (s.lt e), e]; rfl
theorem Sh.new (s : Sh d h0 h h') (o : O) : Sh d h0 (h.new o) (h'.new (rnO d o)) := by
  have hge := s.ge
  have hn := mv_new (d := d) hge
  have hn1 := mv_new (d := d) (show Gn.g ≤ h.nx + 1 by omega)
  refine ⟨by simp only [H.nx_new, s.nx, hn, hn1]; omega, by simp only [H.nx_new]; omega, ?_, ?_, ?_⟩
  · intro id hid
    simp only [H.nx_new] at hid
    rw [H.get_new, H.get_new, s.nx]
    by_cases e : id = h.nx
    · subst e; simp
    · rw [if_neg (fun x => e (mv_inj.1 x)), if_neg e]; exact s.get id (by omega)
  · intro id hid hid2
    rw [H.get_new, if_neg (by rw [s.nx, hn]; omega)]; exact s.low id hid hid2
  · intro id hid
    simp only [H.nx_new] at hid
    rw [H.get_new, if_neg (by omega)]; exact s.none id (by omega)
theorem Sh.put (s : Sh d h0 h h') {id : Nat} (hid : id < h.nx) (o : Option O) : Sh d h0 (h.put id o) (h'.put (mv d id) (o.map (rnO d))) := by
  refine ⟨by simp only [H.nx_put]; exact s.nx, by simp only [H.nx_put]; exact s.ge, ?_, ?_, ?_⟩
  · intro j hj
    simp only [H.nx_put] at hj
    rw [H.get_put, H.get_put]
    by_cases e : j = id
    · subst e; simp
    · rw [if_neg (fun x => e (mv_inj.1 x)), if_neg e]; exact s.get j hj
  · intro j hj hj2
    rw [H.get_put, if_neg (by unfold mv; split <;> omega)]; exact s.low j hj hj2
  · intro j hj
    simp only [H.nx_put] at hj
    rw [H.get_put, if_neg (by omega)]; exact s.none j hj
theorem Sh.load (s : Sh d h0 h h') {id off n : Nat} {l : List V} (e : h.load id off n = some l) : h'.load (mv d id) off n = some (rns d l) := by
  unfold H.load at e ⊢
  cases hg : h.get id with
  | none => rw [hg] at e; cases e
  | some o =>
    rw [hg] at e
    rw [s.at hg]
    simp only [rnO] at e ⊢
    rw [rns_cut, e]; rfl
theorem Sh.store (s : Sh d h0 h h') {id off : Nat} {xs : List V} {h1 : H} (e : h.store id off xs = some h1) : ∃ h1', h'.store (mv d id) off (rns d xs) = some h1' ∧ Sh d h0 h1 h1' := by
  unfold H.store at e ⊢
  cases hg : h.get id with
  | none => rw [hg] at e; cases e
  | some o =>
    rw [hg] at e
    rw [s.at hg]
    simp only [rnO, rns_length, rns_one] at e ⊢
    split at e
    · rename_i hc
      cases e
      rw [if_pos hc]
      refine ⟨_, rfl, ?_⟩
      have := s.put (s.lt hg) (some { o with c := lay o.c off xs })
      simp only [Option.map_some, rnO] at this
      rw [rns_lay]
      exact this
    · cases e
end

/-! ### operands and operations that point to nothing by themselves -/
def Opd.bare : Opd → Bool
  | .c v => v.bare
  | .g n => decide (n < Gn.g)
  | _ => true
def oBare : Option Opd → Bool
  | some x => x.bare
  | none => true
def psBare (l : List (Nat × Nat × Opd)) : Bool := l.all fun p => p.2.2.bare
def PO.bare : PO → Bool
  | .mov x => x.bare
  | .pick c a b => c.bare && a.bare && b.bare
  | .bin _ x y => x.bare && y.bare
  | .eqz _ _ x y => x.bare && y.bare
  | .eqa _ _ x y => x.bare && y.bare
  | .un _ x => x.bare
  | .cvi _ x => x.bare
  | .fa _ x => x.bare
  | .nilc x => x.bare
  | .fld _ _ _ x => x.bare
  | .ixa _ _ _ x i => x.bare && i.bare
  | .ixs x i => x.bare && i.bare
  | .ia _ x i => x.bare && i.bare
  | .iaa _ _ x i => x.bare && i.bare
  | .sls _ x lo hi mx => x.bare && oBare lo && oBare hi && oBare mx
  | .sla _ _ x lo hi mx => x.bare && oBare lo && oBare hi && oBare mx
  | .slt x lo hi => x.bare && oBare lo && oBare hi
  | .mkf _ caps => caps.all Opd.bare
  | .ext x _ => x.bare
  | .bld z parts => V.bares z && psBare parts
  | .lens x => x.bare
  | .capn x => x.bare
  | .lent x => x.bare
  | .min x xs => x.bare && xs.all Opd.bare
  | .max x xs => x.bare && xs.all Opd.bare
def AO.bare : AO → Bool
  | .box x => x.bare
  | .zero z => V.bares z
  | .sl _ cells parts => V.bares cells && psBare parts
  | .mks _ z len => V.bares z && len.bare
def EO.bare : EO → Bool
  | .store _ a x => a.bare && x.bare
  | .call _ args => args.all Opd.bare
  | .callv x args => x.bare && args.all Opd.bare
  | .app _ _ s x => s.bare && x.bare
  | .appz _ _ z s x => V.bares z && (s.bare && x.bare)
  | .clear z x => V.bares z && x.bare
  | .copy _ a x => a.bare && x.bare
  | .btos x => x.bare
  | .stob x => x.bare
def Op.bare : Op → Bool
  | .pu o => o.bare
  | .al o => o.bare
  | .ld _ _ a => a.bare
  | .ef o => o.bare
def IC.bare : IC → Bool
  | .region l => l.all fun o => o.op.bare
  | .draw l _ => l.all fun o => o.op.bare
  | .seq a b => a.bare && b.bare
  | .cond c a b => c.bare && a.bare && b.bare
  | .block _ c => c.bare
  | .loop c => c.bare
  | _ => true

section
variable {d : Nat}
theorem rn_opd {o : Opd} (ho : o.bare = true) (ts : T) : opd (rns d ts) o = rn d (opd ts o) := by
  cases o with
  | t n => exact rns_getD ts n
  | c v => simp only [Opd.bare] at ho; simp only [opd]; exact (rn_bare v ho).symm
  | f n => rfl
  | g n =>
    simp only [Opd.bare, decide_eq_true_eq] at ho
    simp only [opd, rn, mv_g ho]
theorem rn_opds {l : List Opd} (h : l.all Opd.bare = true) (ts : T) : l.map (opd (rns d ts)) = rns d (l.map (opd ts)) := by
  rw [rns_map (l.map (opd ts)), List.map_map]
  apply List.map_congr_left
  intro o ho
  exact rn_opd (List.all_eq_true.1 h o ho) ts
theorem rn_oopd {o : Option Opd} (ho : oBare o = true) (ts : T) : o.map (opd (rns d ts)) = (o.map (opd ts)).map (rn d) := by
  cases o with
  | none => rfl
  | some x => simp only [Option.map_some]; rw [rn_opd ho]
def rnP (d : Nat) (p : Nat × Nat × V) : Nat × Nat × V := (p.1, p.2.1, rn d p.2.2)
theorem rn_parts {l : List (Nat × Nat × Opd)} (h : psBare l = true) (ts : T) : (l.map fun p => (p.1, p.2.1, opd (rns d ts) p.2.2)) = (l.map fun p => (p.1, p.2.1, opd ts p.2.2)).map (rnP d) := by
  rw [List.map_map]
  apply List.map_congr_left
  intro p hp
  have := List.all_eq_true.1 h p hp
  simp only [Function.comp, rnP]
  rw [rn_opd this]
theorem rn_fill : ∀ (parts : List (Nat × Nat × V)) (cells : List V), fill (rns d cells) (parts.map (rnP d)) = (fill cells parts).map (rns d)
  | [], cells => rfl
  | (off, size, v) :: rest, cells => by
    simp only [List.map_cons, rnP, fill, rn_cells, rns_length]
    split
    · rfl
    · rw [rns_lay]; exact rn_fill rest _
theorem rn_bin (o : BinOp) (a b : V) : bin o (rn d a) (rn d b) = (bin o a b).map (rn d) := by
  cases a with
  | i k x =>
    cases b with
    | i k' y =>
      simp only [rn, bin]
      split
      · unfold shI; split
        · rfl
        · cases o <;> rfl
      · split
        · unfold binI; cases o <;> simp only [] <;> first | rfl | (split <;> rfl)
        · rfl
    | p q => cases q <;> rfl
    | _ => rfl
  | s x =>
    cases b with
    | s y => simp only [rn, bin]; unfold binS; cases o <;> simp only [] <;> first | rfl | (split <;> rfl)
    | p q => cases q <;> rfl
    | _ => rfl
  | p q => cases q <;> cases b <;> first | rfl | (rename_i q; cases q <;> rfl)
  | _ => cases b <;> first | rfl | (rename_i q; cases q <;> rfl)
theorem rn_eqz (k : EK) (a b : V) : eqz k (rn d a) (rn d b) = eqz k a b := by
  cases a with
  | p q =>
    cases q with
    | none => cases b <;> first | rfl | (rename_i q; cases q <;> cases k <;> rfl)
    | some a =>
      obtain ⟨i, o⟩ := a
      cases b with
      | p q =>
        cases q with
        | none => cases k <;> rfl
        | some c =>
          obtain ⟨j, o2⟩ := c
          cases k <;> simp [rn, eqz, mv_inj]
      | _ => cases k <;> rfl
  | _ => cases b <;> first | rfl | (cases k <;> rfl) | (rename_i q; cases q <;> cases k <;> rfl)
theorem rn_eqAtom (k : K) (a b : V) : eqAtom k (rn d a) (rn d b) = eqAtom k a b := by
  cases a with
  | p q => cases q <;> cases b <;> first | rfl | (cases k <;> rfl) | (rename_i q; cases q <;> cases k <;> rfl)
  | _ => cases b <;> first | rfl | (cases k <;> rfl) | (rename_i q; cases q <;> cases k <;> rfl)
theorem rn_eqList : ∀ (ks : List K) (a b : List V), eqList ks (rns d a) (rns d b) = eqList ks a b
  | [], [], [] => rfl
  | [], [], _ :: _ => rfl
  | [], _ :: _, [] => rfl
  | [], _ :: _, _ :: _ => rfl
  | _ :: _, [], [] => rfl
  | _ :: _, [], _ :: _ => rfl
  | _ :: _, _ :: _, [] => rfl
  | k :: ks, x :: a, y :: b => by simp only [rns, eqList, rn_eqAtom, rn_eqList ks a b]
theorem rn_part (agg : Bool) (l : List V) (off n : Nat) : part agg (rns d l) off n = (part agg l off n).map (rn d) := by
  unfold part
  cases agg with
  | true =>
    simp only [if_true, rns_length]
    split
    · simp only [Option.map_some, rn, rns_take, rns_drop]
    · rfl
  | false => simp only [Bool.false_eq_true, if_false]; exact rns_get l off
theorem rn_bounds (len cap : Nat) (lo hi mx : Option V) : bounds len cap (lo.map (rn d)) (hi.map (rn d)) (mx.map (rn d)) = bounds len cap lo hi mx := by
  unfold bounds
  cases mx <;> cases hi <;> cases lo <;> simp only [Option.map_some, Option.map_none, rn_natIn]
theorem rn_cutOp (esz id off len kn e : Nat) (lo hi mx : Option V) : cutOp esz (mv d id) off len kn e (lo.map (rn d)) (hi.map (rn d)) (mx.map (rn d)) = (cutOp esz id off len kn e lo hi mx).map (rn d) := by
  unfold cutOp
  rw [rn_bounds]
  split
  · split
    · cases mx with
      | some m => simp only [Option.map_some]; split <;> rfl
      | none =>
        simp only [Option.map_none]
        split
        · rfl
        · split <;> rfl
    · rfl
  · rfl
theorem rn_slcut (esz : Nat) (x : V) (lo hi mx : Option V) : slcut esz (rn d x) (lo.map (rn d)) (hi.map (rn d)) (mx.map (rn d)) = (slcut esz x lo hi mx).map (rn d) := by
  cases x with
  | sl id off len c =>
    cases c with
    | ex cap =>
      simp only [rn, slcut, rn_bounds]
      split
      · split <;> rfl
      · rfl
    | op e => simp only [rn, slcut]; exact rn_cutOp ..
    | ol kn e => simp only [rn, slcut]; exact rn_cutOp ..
  | nsl => simp only [rn, slcut, rn_bounds]; split <;> rfl
  | es z =>
    simp only [rn, slcut, rn_bounds]
    split
    · cases mx <;> rfl
    · rfl
  | so id off e =>
    simp only [rn, slcut, rn_bounds]
    split
    · cases mx <;> rfl
    · rfl
  | p q => cases q <;> rfl
  | _ => rfl
theorem rn_foldO {f : V → V → Option V} (hf : ∀ a b, f (rn d a) (rn d b) = (f a b).map (rn d)) : ∀ (l : List V) (x : V), foldO f (rn d x) (rns d l) = (foldO f x l).map (rn d)
  | [], x => rfl
  | y :: l, x => by
    simp only [rns, foldO, hf]
    cases f x y with
    | none => rfl
    | some z => simp only [Option.map_some]; exact rn_foldO hf l z
theorem rn_min2 (a b : V) : min2 (rn d a) (rn d b) = (min2 a b).map (rn d) := by
  cases a with
  | p q => cases q <;> rfl
  | i k x => cases b <;> first | rfl | (rename_i q; cases q <;> rfl)
  | _ => rfl
theorem rn_max2 (a b : V) : max2 (rn d a) (rn d b) = (max2 a b).map (rn d) := by
  cases a with
  | p q => cases q <;> rfl
  | i k x => cases b <;> first | rfl | (rename_i q; cases q <;> rfl)
  | _ => rfl
theorem rn_un (o : UnOp) (a : V) : un o (rn d a) = (un o a).map (rn d) := by
  cases a with
  | p q => cases q <;> cases o <;> rfl
  | _ => cases o <;> rfl
theorem rn_pure {o : PO} (ho : o.bare = true) (ts : T) : pure1 (rns d ts) o = (pure1 ts o).map (rn d) := by
  cases o with
  | mov x => simp only [PO.bare] at ho; simp only [pure1, rn_opd ho, Option.map_some]
  | pick c a b =>
    simp only [PO.bare, Bool.and_eq_true] at ho
    simp only [pure1, rn_opd ho.1.1, rn_opd ho.1.2, rn_opd ho.2]
    cases opd ts c with
    | b x => cases x <;> rfl
    | p q => cases q <;> rfl
    | _ => rfl
  | bin o x y => simp only [PO.bare, Bool.and_eq_true] at ho; simp only [pure1, rn_opd ho.1, rn_opd ho.2, rn_bin]
  | eqz neg k x y =>
    simp only [PO.bare, Bool.and_eq_true] at ho
    simp only [pure1, rn_opd ho.1, rn_opd ho.2, rn_eqz]
    cases eqz k (opd ts x) (opd ts y) <;> rfl
  | eqa neg ks x y =>
    simp only [PO.bare, Bool.and_eq_true] at ho
    simp only [pure1, rn_opd ho.1, rn_opd ho.2]
    cases opd ts x with
    | agg a =>
      cases opd ts y with
      | agg b =>
        simp only [rn, rn_eqList]
        cases eqList ks a b <;> rfl
      | p q => cases q <;> rfl
      | _ => rfl
    | p q => cases q <;> rfl
    | _ => rfl
  | un o x => simp only [PO.bare] at ho; simp only [pure1, rn_opd ho, rn_un]
  | cvi k x =>
    simp only [PO.bare] at ho; simp only [pure1, rn_opd ho]
    cases opd ts x with
    | p q => cases q <;> rfl
    | _ => rfl
  | fa off x =>
    simp only [PO.bare] at ho; simp only [pure1, rn_opd ho]
    cases opd ts x with
    | p q => cases q <;> rfl
    | _ => rfl
  | nilc x =>
    simp only [PO.bare] at ho; simp only [pure1, rn_opd ho]
    cases opd ts x with
    | p q => cases q <;> rfl
    | _ => rfl
  | fld agg off n x =>
    simp only [PO.bare] at ho; simp only [pure1, rn_opd ho]
    cases opd ts x with
    | agg l => simp only [rn]; exact rn_part agg l off n
    | p q => cases q <;> rfl
    | _ => rfl
  | ixa agg n len x i =>
    simp only [PO.bare, Bool.and_eq_true] at ho; simp only [pure1, rn_opd ho.1, rn_opd ho.2]
    cases opd ts x with
    | agg l =>
      cases opd ts i with
      | i k j =>
        simp only [rn]
        split
        · exact rn_part agg l _ n
        · rfl
      | p q => cases q <;> rfl
      | _ => rfl
    | p q => cases q <;> rfl
    | _ => rfl
  | ixs x i =>
    simp only [PO.bare, Bool.and_eq_true] at ho; simp only [pure1, rn_opd ho.1, rn_opd ho.2]
    cases opd ts x with
    | s t =>
      cases opd ts i with
      | i k j =>
        simp only [rn]
        split
        · cases t[j.toNat]? <;> rfl
        · rfl
      | p q => cases q <;> rfl
      | _ => rfl
    | p q => cases q <;> rfl
    | _ => rfl
  | ia esz x i =>
    simp only [PO.bare, Bool.and_eq_true] at ho; simp only [pure1, rn_opd ho.1, rn_opd ho.2]
    cases opd ts x with
    | sl id off len c =>
      cases opd ts i with
      | i k j => simp only [rn]; split <;> rfl
      | p q => cases q <;> rfl
      | _ => rfl
    | p q => cases q <;> rfl
    | _ => rfl
  | iaa esz len x i =>
    simp only [PO.bare, Bool.and_eq_true] at ho; simp only [pure1, rn_opd ho.1, rn_opd ho.2]
    cases opd ts x with
    | p q =>
      cases q with
      | none => rfl
      | some a =>
        cases opd ts i with
        | i k j => simp only [rn]; split <;> rfl
        | p q => cases q <;> rfl
        | _ => rfl
    | _ => rfl
  | sls esz x lo hi mx =>
    simp only [PO.bare, Bool.and_eq_true] at ho
    simp only [pure1, rn_opd ho.1.1.1, rn_oopd ho.1.1.2, rn_oopd ho.1.2, rn_oopd ho.2, rn_slcut]
  | sla esz len x lo hi mx =>
    simp only [PO.bare, Bool.and_eq_true] at ho
    simp only [pure1, rn_opd ho.1.1.1, rn_oopd ho.1.1.2, rn_oopd ho.1.2, rn_oopd ho.2]
    cases opd ts x with
    | p q =>
      cases q with
      | none => rfl
      | some a => simp only [rn]; exact rn_slcut esz (.sl a.1 a.2 len (.ex len)) _ _ _
    | _ => rfl
  | slt x lo hi =>
    simp only [PO.bare, Bool.and_eq_true] at ho
    simp only [pure1, rn_opd ho.1.1, rn_oopd ho.1.2, rn_oopd ho.2]
    cases opd ts x with
    | s t =>
      simp only [rn]
      have := rn_bounds (d := d) t.size t.size (lo.map (opd ts)) (hi.map (opd ts)) none
      simp only [Option.map_none] at this
      rw [this]
      split <;> rfl
    | p q => cases q <;> rfl
    | _ => rfl
  | mkf f caps => simp only [PO.bare] at ho; simp only [pure1, rn_opds ho, Option.map_some, rn]
  | ext x i =>
    simp only [PO.bare] at ho; simp only [pure1, rn_opd ho]
    cases opd ts x with
    | tup l => simp only [rn]; exact rns_get l i
    | p q => cases q <;> rfl
    | _ => rfl
  | bld z parts =>
    simp only [PO.bare, Bool.and_eq_true] at ho
    simp only [pure1, rn_parts ho.2]
    have := rn_fill (d := d) (parts.map fun p => (p.1, p.2.1, opd ts p.2.2)) z
    rw [rns_bare z ho.1] at this
    rw [this]
    cases fill z (parts.map fun p => (p.1, p.2.1, opd ts p.2.2)) <;> rfl
  | lens x => simp only [PO.bare] at ho; rw [p_lens, p_lens, rn_opd ho, rn_lenV]; cases lenV (opd ts x) <;> rfl
  | capn x => simp only [PO.bare] at ho; simp only [pure1]; rw [rn_opd ho, rn_capV]; cases capV (opd ts x) <;> rfl
  | lent x =>
    simp only [PO.bare] at ho; simp only [pure1, rn_opd ho]
    cases opd ts x with
    | p q => cases q <;> rfl
    | _ => rfl
  | min x xs => simp only [PO.bare, Bool.and_eq_true] at ho; simp only [pure1, rn_opd ho.1, rn_opds ho.2]; exact rn_foldO rn_min2 _ _
  | max x xs => simp only [PO.bare, Bool.and_eq_true] at ho; simp only [pure1, rn_opd ho.1, rn_opds ho.2]; exact rn_foldO rn_max2 _ _

variable {h0 h h' : H}
theorem rn_alloc {o : AO} (ho : o.bare = true) {ts : T} (s : Sh d h0 h h') {v : V} {h1 : H} (e : alloc1 ts h o = some (v, h1)) : ∃ h1', alloc1 (rns d ts) h' o = some (rn d v, h1') ∧ Sh d h0 h1 h1' := by
  cases o with
  | box x =>
    simp only [AO.bare] at ho
    simp only [alloc1] at e ⊢
    rw [rn_opd ho, rn_cells, rns_one]
    split at e
    · rename_i hc
      cases e
      rw [if_pos hc, s.nx]
      exact ⟨_, rfl, s.new _⟩
    · cases e
  | zero z =>
    simp only [AO.bare] at ho
    simp only [alloc1] at e ⊢
    cases e
    rw [s.nx]
    refine ⟨_, rfl, ?_⟩
    have := s.new { ro := false, c := z }
    simp only [rnO, rns_bare z ho] at this
    exact this
  | sl len cells parts =>
    simp only [AO.bare, Bool.and_eq_true] at ho
    simp only [alloc1] at e ⊢
    rw [rn_parts ho.2]
    have hf := rn_fill (d := d) (parts.map fun p => (p.1, p.2.1, opd ts p.2.2)) cells
    rw [rns_bare cells ho.1] at hf
    rw [hf]
    cases hx : fill cells (parts.map fun p => (p.1, p.2.1, opd ts p.2.2)) with
    | none => rw [hx] at e; cases e
    | some l =>
      rw [hx] at e
      cases e
      rw [s.nx]
      exact ⟨_, rfl, s.new _⟩
  | mks bytes z len =>
    simp only [AO.bare, Bool.and_eq_true] at ho
    simp only [alloc1] at e ⊢
    rw [rn_opd ho.2]
    cases hx : opd ts len with
    | i k n =>
      rw [hx] at e
      simp only [rn] at e ⊢
      split at e
      · rename_i hc
        cases e
        rw [if_pos hc, s.nx]
        refine ⟨_, rfl, ?_⟩
        have := s.new { ro := false, c := zrep z n.toNat }
        simp only [rnO, rns_zrep ho.1] at this
        exact this
      · cases e
    | p q => rw [hx] at e; cases q <;> cases e
    | _ => rw [hx] at e; cases e
theorem rn_ld {agg : Bool} {n : Nat} {a : Opd} (ho : a.bare = true) {ts : T} (s : Sh d h0 h h') {v : V} (e : load1 ts h agg n a = some v) : load1 (rns d ts) h' agg n a = some (rn d v) := by
  unfold load1 at e ⊢
  rw [rn_opd ho]
  cases hx : opd ts a with
  | p q =>
    cases q with
    | none => rw [hx] at e; cases e
    | some a =>
      obtain ⟨id, off⟩ := a
      rw [hx] at e
      simp only [rn] at e ⊢
      cases agg with
      | true =>
        simp only [if_true] at e ⊢
        cases hl : h.load id off n with
        | none => rw [hl] at e; cases e
        | some l => rw [hl] at e; cases e; rw [s.load hl]; rfl
      | false =>
        simp only [Bool.false_eq_true, if_false] at e ⊢
        cases hl : h.load id off 1 with
        | none => rw [hl] at e; cases e
        | some l =>
          rw [hl] at e; rw [s.load hl]
          match l with
          | [x] => cases e; rfl
  | _ => rw [hx] at e; cases e
theorem rn_source {esz : Nat} (s : Sh d h0 h h') {v : V} {l : List V} (e : source esz h v = some l) : source esz h' (rn d v) = some (rns d l) := by
  cases v with
  | sl id off len c => simp only [source, rn] at e ⊢; exact s.load e
  | nsl => cases e; rfl
  | es z => cases e; rfl
  | so id off e2 => cases e; rfl
  | p q => cases q <;> cases e
  | _ => cases e
theorem rn_append {esz bytes n : Nat} (s : Sh d h0 h h') {v : V} {new : List V} {r : V} {h1 : H} (e : append1 esz bytes h v n new = some (r, h1)) : ∃ h1', append1 esz bytes h' (rn d v) n (rns d new) = some (rn d r, h1') ∧ Sh d h0 h1 h1' := by
  unfold append1 at e ⊢
  split at e
  · rename_i hn
    rw [if_pos hn, rn_isSl]
    split at e
    · rename_i hs
      cases e
      rw [if_pos hs]; exact ⟨_, rfl, s⟩
    · cases e
  · rename_i hn
    rw [if_neg hn]
    cases v with
    | nsl =>
      simp only [rn] at e ⊢
      split at e
      · rename_i hc
        cases e
        rw [if_pos hc, s.nx]; exact ⟨_, rfl, s.new _⟩
      · cases e
    | es z =>
      simp only [rn] at e ⊢
      split at e
      · rename_i hc
        cases e
        rw [if_pos hc, s.nx]; exact ⟨_, rfl, s.new _⟩
      · cases e
    | sl id off len c =>
      cases c with
      | ex cap =>
        simp only [rn] at e ⊢
        split at e
        · rename_i hc
          rw [if_pos hc]
          cases hs : h.store id (off + len * esz) new with
          | none => rw [hs] at e; cases e
          | some h2 =>
            rw [hs] at e; cases e
            obtain ⟨h2', k1, k2⟩ := s.store hs
            rw [k1]; exact ⟨_, rfl, k2⟩
        · rename_i hc
          rw [if_neg hc]
          split at e
          · rename_i hc2
            rw [if_pos hc2]
            cases hl : h.load id off (len * esz) with
            | none => rw [hl] at e; cases e
            | some old =>
              rw [hl] at e; cases e
              rw [s.load hl, s.nx]
              simp only [← rns_append]
              exact ⟨_, rfl, s.new _⟩
          · cases e
      | op e2 =>
        simp only [rn] at e ⊢
        split at e
        · cases e
        · rename_i he
          rw [if_neg he]
          cases hg : h.get id with
          | none => rw [hg] at e; cases e
          | some o =>
            rw [hg] at e
            rw [s.at hg]
            simp only [rnO, rns_length, rns_one] at e ⊢
            split at e
            · cases e
            · rename_i hro
              rw [if_neg hro]
              split at e
              · rename_i hc
                rw [if_pos hc]
                cases hs : h.store id (off + len * esz) new with
                | none => rw [hs] at e; cases e
                | some h2 =>
                  rw [hs] at e; cases e
                  obtain ⟨h2', k1, k2⟩ := s.store hs
                  rw [k1]; exact ⟨_, rfl, k2⟩
              · rename_i hc
                rw [if_neg hc]
                split at e
                · rename_i hc2
                  rw [if_pos hc2]
                  cases hl : h.load id off (len * esz) with
                  | none => rw [hl] at e; cases e
                  | some old =>
                    rw [hl] at e; cases e
                    rw [s.load hl, s.nx]
                    simp only [← rns_append]
                    refine ⟨_, rfl, ?_⟩
                    have k := s.put (s.lt hg) none
                    have k2 := k.new { ro := false, c := old ++ new }
                    simp only [Option.map_none, rnO] at k2
                    exact k2
                · cases e
      | ol kn e2 =>
        simp only [rn] at e ⊢
        split at e
        · cases e
        · rename_i he
          rw [if_neg he]
          cases hg : h.get id with
          | none => rw [hg] at e; cases e
          | some o =>
            rw [hg] at e
            rw [s.at hg]
            simp only [rnO, rns_length, rns_one] at e ⊢
            split at e
            · cases e
            · rename_i hro
              rw [if_neg hro]
              split at e
              · rename_i hc
                rw [if_pos hc]
                cases hs : h.store id (off + len * esz) new with
                | none => rw [hs] at e; cases e
                | some h2 =>
                  rw [hs] at e; cases e
                  obtain ⟨h2', k1, k2⟩ := s.store hs
                  rw [k1]; exact ⟨_, rfl, k2⟩
              · rename_i hc
                rw [if_neg hc]
                split at e
                · rename_i hc2
                  rw [if_pos hc2]
                  cases hl : h.load id off (len * esz) with
                  | none => rw [hl] at e; cases e
                  | some old =>
                    rw [hl] at e; cases e
                    rw [s.load hl, s.nx]
                    simp only [← rns_append]
                    refine ⟨_, rfl, ?_⟩
                    have k := s.put (s.lt hg) none
                    have k2 := k.new { ro := false, c := old ++ new }
                    simp only [Option.map_none, rnO] at k2
                    exact k2
                · cases e
    | so id off e2 =>
      simp only [rn] at e ⊢
      split at e
      · cases e
      · rename_i he
        rw [if_neg he]
        cases hg : h.get id with
        | none => rw [hg] at e; cases e
        | some o =>
          rw [hg] at e
          rw [s.at hg]
          simp only [rnO, rns_length, rns_one] at e ⊢
          split at e
          · cases e
          · rename_i hro
            rw [if_neg hro]
            split at e
            · rename_i hc
              rw [if_pos hc]
              cases hs : h.store id (off + 0 * esz) new with
              | none => rw [hs] at e; cases e
              | some h2 =>
                rw [hs] at e; cases e
                obtain ⟨h2', k1, k2⟩ := s.store hs
                rw [k1]; exact ⟨_, rfl, k2⟩
            · rename_i hc
              rw [if_neg hc]
              split at e
              · rename_i hc2
                rw [if_pos hc2]
                cases hl : h.load id off (0 * esz) with
                | none => rw [hl] at e; cases e
                | some old =>
                  rw [hl] at e; cases e
                  rw [s.load hl, s.nx]
                  simp only [← rns_append]
                  refine ⟨_, rfl, ?_⟩
                  have k := s.put (s.lt hg) none
                  have k2 := k.new { ro := false, c := old ++ new }
                  simp only [Option.map_none, rnO] at k2
                  exact k2
              · cases e
    | p q => cases q <;> cases e
    | _ => cases e
theorem rn_appz {esz bytes : Nat} {z : List V} (hz : V.bares z = true) (s : Sh d h0 h h') {v n : V} {r : V} {h1 : H} (e : appz1 esz bytes z h v n = some (r, h1)) : ∃ h1', appz1 esz bytes z h' (rn d v) (rn d n) = some (rn d r, h1') ∧ Sh d h0 h1 h1' := by
  unfold appz1 at e ⊢
  split at e
  · rename_i m
    simp only [rn]
    split at e
    · rename_i hm
      rw [if_pos hm, rn_isSl]
      split at e
      · rename_i hs; cases e; rw [if_pos hs]; exact ⟨_, rfl, s⟩
      · cases e
    · rename_i hm
      rw [if_neg hm]
      split at e
      · simp only [rn]
        split at e
        · rename_i hc
          cases e
          rw [if_pos hc, s.nx]
          have := s.new { ro := false, c := zrep z m.toNat }
          simp only [rnO, rns_zrep hz] at this
          exact ⟨_, rfl, this⟩
        · cases e
      · cases e
  · cases e
theorem rn_bytes : ∀ (l : List V), bytesOf (rns d l) = bytesOf l
  | [] => rfl
  | x :: l => by
    cases x with
    | i k n =>
      simp only [rns, rn]
      cases k <;> first | rfl | (simp only [bytesOf, rn_bytes l])
    | p q => cases q <;> rfl
    | _ => rfl
end

/-! ### the whole -/
section
variable {d : Nat} {h0 : H}
def Lifts (d : Nat) (h0 : H) (C C' : Nat → List V → H → Option (V × H)) : Prop := ∀ f a h v h1 h', C f a h = some (v, h1) → Sh d h0 h h' → ∃ h1', C' f (rns d a) h' = some (rn d v, h1') ∧ Sh d h0 h1 h1'

variable {C C' : Nat → List V → H → Option (V × H)}
theorem rn_undef : rn d undefV = undefV := rfl
theorem rn_eff (hC : Lifts d h0 C C') {o : EO} (ho : o.bare = true) {ts : T} {h h' : H} (s : Sh d h0 h h') {v : V} {h1 : H} (e : eff1 C ts h o = some (v, h1)) : ∃ h1', eff1 C' (rns d ts) h' o = some (rn d v, h1') ∧ Sh d h0 h1 h1' := by
  cases o with
  | store n a x =>
    simp only [EO.bare, Bool.and_eq_true] at ho
    simp only [eff1] at e ⊢
    rw [rn_opd ho.1, rn_opd ho.2, rn_cells, rns_length]
    cases hx : opd ts a with
    | p q =>
      cases q with
      | none => rw [hx] at e; cases e
      | some a =>
        obtain ⟨id, off⟩ := a
        rw [hx] at e
        simp only [rn] at e ⊢
        split at e
        · rename_i hc
          rw [if_pos hc]
          cases hs : h.store id off (opd ts x).cells with
          | none => rw [hs] at e; cases e
          | some h2 =>
            rw [hs] at e; cases e
            obtain ⟨h2', k1, k2⟩ := s.store hs
            rw [k1]; exact ⟨_, rfl, k2⟩
        · cases e
    | _ => rw [hx] at e; cases e
  | call f args =>
    simp only [EO.bare] at ho
    simp only [eff1] at e ⊢
    rw [rn_opds ho]
    exact hC _ _ _ _ _ _ e s
  | callv x args =>
    simp only [EO.bare, Bool.and_eq_true] at ho
    simp only [eff1] at e ⊢
    rw [rn_opd ho.1, rn_opds ho.2]
    cases hx : opd ts x with
    | fn f caps =>
      rw [hx] at e
      simp only [rn] at e ⊢
      rw [← rns_append]
      exact hC _ _ _ _ _ _ e s
    | p q => rw [hx] at e; cases q <;> cases e
    | _ => rw [hx] at e; cases e
  | app esz bytes t x =>
    simp only [EO.bare, Bool.and_eq_true] at ho
    simp only [eff1] at e ⊢
    rw [rn_opd ho.1, rn_opd ho.2, rn_lenV]
    cases hl : lenV (opd ts x) with
    | none => rw [hl] at e; cases e
    | some n =>
      cases hs : source esz h (opd ts x) with
      | none => rw [hl, hs] at e; cases e
      | some new =>
        rw [hl, hs] at e
        rw [rn_source s hs]
        exact rn_append s e
  | appz esz bytes z t x =>
    simp only [EO.bare, Bool.and_eq_true] at ho
    simp only [eff1] at e ⊢
    rw [rn_opd ho.2.1, rn_opd ho.2.2]
    exact rn_appz ho.1 s e
  | clear z x =>
    simp only [EO.bare, Bool.and_eq_true] at ho
    simp only [eff1] at e ⊢
    rw [rn_opd ho.2]
    cases hx : opd ts x with
    | sl id off n c =>
      rw [hx] at e
      simp only [rn] at e ⊢
      split at e
      · rename_i hn
        cases e
        rw [if_pos hn]; exact ⟨_, rfl, s⟩
      · rename_i hn
        rw [if_neg hn]
        cases hs : h.store id off (zrep z n) with
        | none => rw [hs] at e; cases e
        | some h2 =>
          rw [hs] at e; cases e
          obtain ⟨h2', k1, k2⟩ := s.store hs
          rw [rns_zrep ho.1] at k1
          rw [k1]; exact ⟨_, rfl, k2⟩
    | nsl => rw [hx] at e; cases e; exact ⟨_, rfl, s⟩
    | es z => rw [hx] at e; cases e; exact ⟨_, rfl, s⟩
    | so id off e2 => rw [hx] at e; cases e; exact ⟨_, rfl, s⟩
    | p q => rw [hx] at e; cases q <;> cases e
    | _ => rw [hx] at e; cases e
  | copy esz a x =>
    simp only [EO.bare, Bool.and_eq_true] at ho
    simp only [eff1] at e ⊢
    rw [rn_opd ho.1, rn_opd ho.2, rn_lenV, rn_lenV]
    cases hl : lenV (opd ts a) with
    | none => rw [hl] at e; cases e
    | some m =>
      cases hl2 : lenV (opd ts x) with
      | none => rw [hl, hl2] at e; cases e
      | some n =>
        cases hs : source esz h (opd ts x) with
        | none => rw [hl, hl2, hs] at e; cases e
        | some l =>
          rw [hl, hl2, hs] at e
          rw [rn_source s hs]
          simp only at e ⊢
          cases hx : opd ts a with
          | sl id off len c =>
            rw [hx] at e
            simp only [rn] at e ⊢
            rw [← rns_take]
            cases hs : h.store id off (l.take (Nat.min n m * esz)) with
            | none => rw [hs] at e; cases e
            | some h2 =>
              rw [hs] at e; cases e
              obtain ⟨h2', k1, k2⟩ := s.store hs
              rw [k1]; exact ⟨_, rfl, k2⟩
          | nsl =>
            rw [hx] at e
            simp only [rn] at e ⊢
            split at e
            · rename_i hm; cases e; rw [if_pos hm]; exact ⟨_, rfl, s⟩
            · cases e
          | es z =>
            rw [hx] at e
            simp only [rn] at e ⊢
            split at e
            · rename_i hm; cases e; rw [if_pos hm]; exact ⟨_, rfl, s⟩
            · cases e
          | so id off e2 =>
            rw [hx] at e
            simp only [rn] at e ⊢
            split at e
            · rename_i hm; cases e; rw [if_pos hm]; exact ⟨_, rfl, s⟩
            · cases e
          | p q => rw [hx] at hl; cases q <;> cases hl
          | _ => rw [hx] at hl; cases hl
  | btos x =>
    simp only [EO.bare] at ho
    simp only [eff1] at e ⊢
    rw [rn_opd ho]
    cases hs : source 1 h (opd ts x) with
    | none => rw [hs] at e; cases e
    | some l =>
      rw [hs] at e
      rw [rn_source s hs]
      simp only [rn_bytes] at e ⊢
      cases hb : bytesOf l with
      | none => rw [hb] at e; cases e
      | some b => rw [hb] at e; cases e; exact ⟨_, rfl, s⟩
  | stob x =>
    simp only [EO.bare] at ho
    simp only [eff1] at e ⊢
    rw [rn_opd ho]
    cases hx : opd ts x with
    | s t =>
      rw [hx] at e
      simp only [rn] at e ⊢
      split at e
      · rename_i hc
        cases e
        rw [if_pos hc, s.nx]
        refine ⟨_, rfl, ?_⟩
        have k := s.new { ro := true, c := t.toList.map fun c => V.i .u8 c.toNat }
        have e2 : rns d (t.toList.map fun c => V.i .u8 c.toNat) = t.toList.map fun c => V.i .u8 c.toNat := by
          rw [rns_map, List.map_map]; rfl
        simp only [rnO, e2] at k
        exact k
      · cases e
    | p q => rw [hx] at e; cases q <;> cases e
    | _ => rw [hx] at e; cases e

theorem rn_op (hC : Lifts d h0 C C') {o : Op} (ho : o.bare = true) {ts : T} {h h' : H} (s : Sh d h0 h h') {v : V} {h1 : H} (e : op1 C ts h o = some (v, h1)) : ∃ h1', op1 C' (rns d ts) h' o = some (rn d v, h1') ∧ Sh d h0 h1 h1' := by
  cases o with
  | pu o =>
    simp only [op1] at e ⊢
    rw [rn_pure ho]
    cases hp : pure1 ts o with
    | none => rw [hp] at e; cases e
    | some u => rw [hp] at e; cases e; exact ⟨_, rfl, s⟩
  | al o => exact rn_alloc ho s e
  | ld agg n a =>
    simp only [op1] at e ⊢
    cases hp : load1 ts h agg n a with
    | none => rw [hp] at e; cases e
    | some u => rw [hp] at e; cases e; rw [rn_ld ho s hp]; exact ⟨_, rfl, s⟩
  | ef o => exact rn_eff hC ho s e

theorem rn_wants (ts : T) (g : Option (Nat × Bool)) : wants (rns d ts) g = wants ts g := by
  cases g with
  | none => rfl
  | some p =>
    obtain ⟨t, w⟩ := p
    simp only [wants, rns_get]
    cases ts[t]? with
    | none => rfl
    | some v =>
      cases v with
      | p q => cases q <;> rfl
      | _ => rfl
theorem rn_putT (ts : T) (t : Option Nat) (v : V) : putT (rns d ts) t (rn d v) = rns d (putT ts t v) := by
  cases t with
  | none => rfl
  | some n => exact rns_set ts n v

theorem rn_iop (hC : Lifts d h0 C C') {o : IOp} (ho : o.op.bare = true) {ts ts1 : T} {h h' h1 : H} (s : Sh d h0 h h') (e : iop C o ts h = some (ts1, h1)) : ∃ h1', iop C' o (rns d ts) h' = some (rns d ts1, h1') ∧ Sh d h0 h1 h1' := by
  unfold iop at e ⊢
  rw [rn_wants]
  cases hw : wants ts o.guard with
  | none => rw [hw] at e; cases e
  | some b =>
    rw [hw] at e
    cases b with
    | true =>
      simp only at e ⊢
      cases hx : op1 C ts h o.op with
      | none => rw [hx] at e; cases e
      | some y =>
        obtain ⟨v, h2⟩ := y
        rw [hx] at e
        cases e
        obtain ⟨h1', k1, k2⟩ := rn_op hC ho s hx
        rw [k1]
        exact ⟨h1', by simp only [rn_putT], k2⟩
    | false =>
      cases e
      exact ⟨h', by simp only; rw [← rn_putT, rn_undef], s⟩

theorem rn_iops (hC : Lifts d h0 C C') : ∀ {l : List IOp}, (l.all fun o => o.op.bare) = true → ∀ {ts ts1 : T} {h h' h1 : H}, Sh d h0 h h' → iops C l ts h = some (ts1, h1) → ∃ h1', iops C' l (rns d ts) h' = some (rns d ts1, h1') ∧ Sh d h0 h1 h1'
  | [], _, ts, ts1, h, h', h1, s, e => by simp only [iops] at e; cases e; exact ⟨h', rfl, s⟩
  | o :: l, ho, ts, ts1, h, h', h1, s, e => by
    simp only [List.all_cons, Bool.and_eq_true] at ho
    simp only [iops] at e ⊢
    cases hx : iop C o ts h with
    | none => rw [hx] at e; cases e
    | some y =>
      obtain ⟨ts2, h2⟩ := y
      rw [hx] at e
      obtain ⟨h2', k1, k2⟩ := rn_iop hC ho.1 s hx
      rw [k1]
      exact rn_iops hC ho.2 k2 e

/-- two rows of states -/
def ShL (d : Nat) (h0 : H) : List (T × H) → List (T × H) → Prop
  | [], l => l = []
  | (ts, h) :: l, r => ∃ h' r', r = (rns d ts, h') :: r' ∧ Sh d h0 h h' ∧ ShL d h0 l r'
theorem ShL.get : ∀ {l r : List (T × H)}, ShL d h0 l r → ∀ (i : Nat) (ts : T) (h : H), l[i]? = some (ts, h) → ∃ h', r[i]? = some (rns d ts, h') ∧ Sh d h0 h h'
  | [], r, _, i, ts, h, e => by simp at e
  | (ts0, h1) :: l, r, s, i, ts, h, e => by
    obtain ⟨h', r', rfl, s1, s2⟩ := s
    cases i with
    | zero => simp at e; obtain ⟨rfl, rfl⟩ := e; exact ⟨h', rfl, s1⟩
    | succ i => simp only [List.getElem?_cons_succ] at e ⊢; exact s2.get i ts h e
theorem rn_trace (hC : Lifts d h0 C C') : ∀ {l : List IOp}, (l.all fun o => o.op.bare) = true → ∀ {ts : T} {h h' : H} {st : List (T × H)}, Sh d h0 h h' → trace C l ts h = some st → ∃ st', trace C' l (rns d ts) h' = some st' ∧ ShL d h0 st st'
  | [], _, ts, h, h', st, s, e => by simp only [trace] at e; cases e; exact ⟨_, rfl, h', [], rfl, s, rfl⟩
  | o :: l, ho, ts, h, h', st, s, e => by
    simp only [List.all_cons, Bool.and_eq_true] at ho
    simp only [trace] at e ⊢
    cases hx : iop C o ts h with
    | none => rw [hx] at e; cases e
    | some y =>
      obtain ⟨ts2, h2⟩ := y
      rw [hx] at e
      obtain ⟨h2', k1, k2⟩ := rn_iop hC ho.1 s hx
      rw [k1]
      simp only at e ⊢
      cases ht : trace C l ts2 h2 with
      | none => rw [ht] at e; cases e
      | some r =>
        rw [ht] at e; cases e
        obtain ⟨r', q1, q2⟩ := rn_trace hC ho.2 k2 ht
        rw [q1]
        exact ⟨_, rfl, h', r', rfl, s, q2⟩

theorem rn_steady {ops : List IOp} (ho : (ops.all fun o => o.op.bare) = true) {st st' : List (T × H)} (s : ShL d h0 st st') {l e : Nat} (hs : steady ops st l e = true) : steady ops st' l e = true := by
  unfold steady at hs ⊢
  cases h1 : ops[l]? with
  | none => rw [h1] at hs; simp at hs
  | some o =>
    have hb : o.op.bare = true := List.all_eq_true.1 ho o (List.mem_of_getElem? h1)
    cases h2 : st[l]? with
    | none => rw [h1, h2] at hs; simp at hs
    | some p =>
      obtain ⟨ts, hh⟩ := p
      cases h3 : st[e]? with
      | none => rw [h1, h2, h3] at hs; simp at hs
      | some p3 =>
        obtain ⟨ts3, hh3⟩ := p3
        cases h4 : st[e + 1]? with
        | none => rw [h1, h2, h3, h4] at hs; simp at hs
        | some p4 =>
          obtain ⟨ts4, hh4⟩ := p4
          rw [h1, h2, h3, h4] at hs
          obtain ⟨a2, e2, s2⟩ := s.get l ts hh h2
          obtain ⟨a3, e3, s3⟩ := s.get e ts3 hh3 h3
          obtain ⟨a4, e4, s4⟩ := s.get (e + 1) ts4 hh4 h4
          rw [e2, e3, e4]
          obtain ⟨dst, op, g⟩ := o
          cases op with
          | ld agg n a =>
            simp only at hs ⊢ hb
            rw [rn_wants]
            cases hw : wants ts g with
            | none => rfl
            | some b =>
              rw [hw] at hs
              cases b with
              | false => rfl
              | true =>
                simp only at hs ⊢
                rw [rn_opd hb]
                cases hx : opd ts a with
                | p q =>
                  cases q with
                  | none => rw [hx] at hs; simp at hs
                  | some q =>
                    obtain ⟨id, off⟩ := q
                    rw [hx] at hs
                    simp only [rn] at hs ⊢
                    split at hs
                    · rename_i hle
                      rw [if_pos (by rw [s3.nx]; exact mv_le_iff.2 hle)]
                    · rename_i hle
                      rw [if_neg (by rw [s3.nx, mv_le_iff]; exact hle)]
                      split at hs
                      · rename_i x y hx1 hy1
                        rw [s3.load hx1, s4.load hy1]
                        simp only
                        have := sames_eq x y hs
                        rw [this]; exact sames_refl _
                      · cases hs
                | _ => rw [hx] at hs; simp at hs
          | _ => simp at hs

theorem rn_draw (hC : Lifts d h0 C C') {l : List IOp} (ho : (l.all fun o => o.op.bare) = true) {ps : List (Nat × Nat)} {ts ts1 : T} {h h' h1 : H} (s : Sh d h0 h h') (e : idraw C l ps ts h = some (ts1, h1)) : ∃ h1', idraw C' l ps (rns d ts) h' = some (rns d ts1, h1') ∧ Sh d h0 h1 h1' := by
  unfold idraw at e ⊢
  cases ps with
  | nil => exact rn_iops hC ho s e
  | cons p ps =>
    simp only at e ⊢
    cases ht : trace C l ts h with
    | none => rw [ht] at e; cases e
    | some st =>
      rw [ht] at e
      obtain ⟨st', k1, k2⟩ := rn_trace hC ho s ht
      rw [k1]
      simp only at e ⊢
      split at e
      · rename_i hp
        rw [if_pos (by
          rw [List.all_eq_true] at hp ⊢
          intro x hx
          exact rn_steady ho k2 (hp x hx))]
        exact rn_iops hC ho s e
      · cases e

theorem rn_loop {b b' : T → H → Option (X × T × H)} (hb : ∀ ts h x ts1 h1 h', b ts h = some (x, ts1, h1) → Sh d h0 h h' → ∃ h1', b' (rns d ts) h' = some (x, rns d ts1, h1') ∧ Sh d h0 h1 h1') :
    ∀ (n : Nat) {ts ts1 : T} {h h' h1 : H} {x : X}, Sh d h0 h h' → loopN b n ts h = some (x, ts1, h1) → ∃ h1', loopN b' n (rns d ts) h' = some (x, rns d ts1, h1') ∧ Sh d h0 h1 h1'
  | 0, _, _, _, _, _, _, _, e => by simp [loopN] at e
  | n + 1, ts, ts1, h, h', h1, x, s, e => by
    simp only [loopN] at e ⊢
    cases hx : b ts h with
    | none => rw [hx] at e; cases e
    | some y =>
      obtain ⟨x2, ts2, h2⟩ := y
      rw [hx] at e
      obtain ⟨h2', k1, k2⟩ := hb _ _ _ _ _ _ hx s
      rw [k1]
      cases x2 with
      | normal => exact rn_loop hb n k2 e
      | exit id => cases e; exact ⟨_, rfl, k2⟩
      | ret => cases e; exact ⟨_, rfl, k2⟩

theorem rn_run (hC : Lifts d h0 C C') (k : Nat) : ∀ {c : IC}, c.bare = true → ∀ {ts ts1 : T} {h h' h1 : H} {x : X}, Sh d h0 h h' → runC C k c ts h = some (x, ts1, h1) → ∃ h1', runC C' k c (rns d ts) h' = some (x, rns d ts1, h1') ∧ Sh d h0 h1 h1'
  | .skip, _, _, _, _, _, _, _, s, e => by simp only [runC] at e; cases e; exact ⟨_, rfl, s⟩
  | .exit id, _, _, _, _, _, _, _, s, e => by simp only [runC] at e; cases e; exact ⟨_, rfl, s⟩
  | .ret, _, _, _, _, _, _, _, s, e => by simp only [runC] at e; cases e; exact ⟨_, rfl, s⟩
  | .region l, ho, ts, ts1, h, h', h1, x, s, e => by
    simp only [IC.bare] at ho
    simp only [runC] at e ⊢
    cases hx : iops C l ts h with
    | none => rw [hx] at e; cases e
    | some y =>
      obtain ⟨ts2, h2⟩ := y
      rw [hx] at e; cases e
      obtain ⟨h2', k1, k2⟩ := rn_iops hC ho s hx
      rw [k1]; exact ⟨_, rfl, k2⟩
  | .draw l ps, ho, ts, ts1, h, h', h1, x, s, e => by
    simp only [IC.bare] at ho
    simp only [runC] at e ⊢
    cases hx : idraw C l ps ts h with
    | none => rw [hx] at e; cases e
    | some y =>
      obtain ⟨ts2, h2⟩ := y
      rw [hx] at e; cases e
      obtain ⟨h2', k1, k2⟩ := rn_draw hC ho s hx
      rw [k1]; exact ⟨_, rfl, k2⟩
  | .seq a b, ho, ts, ts1, h, h', h1, x, s, e => by
    simp only [IC.bare, Bool.and_eq_true] at ho
    simp only [runC] at e ⊢
    cases hx : runC C k a ts h with
    | none => rw [hx] at e; cases e
    | some y =>
      obtain ⟨x2, ts2, h2⟩ := y
      rw [hx] at e
      obtain ⟨h2', k1, k2⟩ := rn_run hC k ho.1 s hx
      rw [k1]
      cases x2 with
      | normal => exact rn_run hC k ho.2 k2 e
      | exit id => cases e; exact ⟨_, rfl, k2⟩
      | ret => cases e; exact ⟨_, rfl, k2⟩
  | .cond c a b, ho, ts, ts1, h, h', h1, x, s, e => by
    simp only [IC.bare, Bool.and_eq_true] at ho
    simp only [runC] at e ⊢
    rw [rn_opd ho.1.1]
    cases hx : opd ts c with
    | b z =>
      rw [hx] at e
      cases z with
      | true => exact rn_run hC k ho.1.2 s e
      | false => exact rn_run hC k ho.2 s e
    | p q => rw [hx] at e; cases q <;> cases e
    | _ => rw [hx] at e; cases e
  | .block id c, ho, ts, ts1, h, h', h1, x, s, e => by
    simp only [IC.bare] at ho
    simp only [runC] at e ⊢
    cases hx : runC C k c ts h with
    | none => rw [hx] at e; cases e
    | some y =>
      obtain ⟨x2, ts2, h2⟩ := y
      rw [hx] at e
      obtain ⟨h2', k1, k2⟩ := rn_run hC k ho s hx
      rw [k1]
      cases x2 with
      | normal => cases e; exact ⟨_, rfl, k2⟩
      | ret => cases e; exact ⟨_, rfl, k2⟩
      | exit id' =>
        simp only at e ⊢
        split at e
        · rename_i hid; cases e; rw [if_pos hid]; exact ⟨_, rfl, k2⟩
        · rename_i hid; cases e; rw [if_neg hid]; exact ⟨_, rfl, k2⟩
  | .loop c, ho, ts, ts1, h, h', h1, x, s, e => by
    simp only [IC.bare] at ho
    simp only [runC] at e ⊢
    exact rn_loop (fun ts h x ts1 h1 h' e s => rn_run hC k ho s e) k s e

theorem rn_res {rs : List RV} {ts : T} {h h' : H} (s : Sh d h0 h h') {v : V} (e : resOf ts h rs = some v) : resOf (rns d ts) h' rs = some (rn d v) := by
  have hv : ∀ (r : RV) (u : V), resV ts h r = some u → resV (rns d ts) h' r = some (rn d u) := by
    intro r u e
    cases r with
    | t n => simp only [resV] at e ⊢; cases e; rw [rns_getD]
    | c n agg sz => simp only [resV] at e ⊢; exact rn_ld rfl s e
  have hl : ∀ (rs : List RV) (us : List V), resL ts h rs = some us → resL (rns d ts) h' rs = some (rns d us) := by
    intro rs
    induction rs with
    | nil => intro us e; simp only [resL] at e ⊢; cases e; rfl
    | cons r rs ih =>
      intro us e
      simp only [resL] at e ⊢
      cases h1 : resV ts h r with
      | none => rw [h1] at e; cases e
      | some u =>
        cases h2 : resL ts h rs with
        | none => rw [h1, h2] at e; cases e
        | some us' =>
          rw [h1, h2] at e; cases e
          rw [hv r u h1, ih us' h2]; rfl
  unfold resOf at e ⊢
  cases h1 : resL ts h rs with
  | none => rw [h1] at e; cases e
  | some us =>
    rw [h1] at e
    rw [hl rs us h1]
    match us with
    | [] => cases e; rfl
    | [u] => cases e; rfl
    | u :: w :: us => cases e; rfl

/-- all functions point to nothing by themselves -/
def AllBare (IP : Nat → Option IFn) : Prop := ∀ f fn, IP f = some fn → fn.body.bare = true

theorem ev_lift {IP : Nat → Option IFn} (hb : AllBare IP) : ∀ (k : Nat), Lifts d h0 (ev IP k) (ev IP k)
  | 0, f, a, h, v, h1, h', e, _ => by simp [ev] at e
  | k + 1, f, a, h, v, h1, h', e, s => by
    unfold ev at e ⊢
    cases hf : IP f with
    | none => rw [hf] at e; cases e
    | some fn =>
      rw [hf] at e
      simp only at e ⊢
      have he : rns d (a ++ List.replicate (fn.ntmps - a.length) undefV) = rns d a ++ List.replicate (fn.ntmps - (rns d a).length) undefV := by
        rw [rns_append, rns_length]
        congr 1
        rw [rns_map, List.map_replicate]; rfl
      cases hr : runC (ev IP k) k fn.body (a ++ List.replicate (fn.ntmps - a.length) undefV) h with
      | none => rw [hr] at e; cases e
      | some y =>
        obtain ⟨x, ts, h2⟩ := y
        rw [hr] at e
        obtain ⟨h2', k1, k2⟩ := rn_run (ev_lift hb k) k (hb f fn hf) s hr
        rw [he] at k1
        rw [k1]
        cases x with
        | exit id => cases e
        | normal =>
          simp only at e ⊢
          cases hx : resOf ts h2 fn.results with
          | none => rw [hx] at e; cases e
          | some u => rw [hx] at e; cases e; rw [rn_res k2 hx]; exact ⟨_, rfl, k2⟩
        | ret =>
          simp only at e ⊢
          cases hx : resOf ts h2 fn.results with
          | none => rw [hx] at e; cases e
          | some u => rw [hx] at e; cases e; rw [rn_res k2 hx]; exact ⟨_, rfl, k2⟩

/-- what runs where the package variables alone lie, and points to nothing, runs in any heap that has them, and leaves what was there -/
theorem Fnc_any_g {IP : Nat → Option IFn} (hb : AllBare IP) (k : Nat) {f : Nat} {a : List V} (ha : V.bares a = true) {v : V} (hv : v.bare = true) (hG : H) (hGn : hG.nx = Gn.g) (hGr : ∀ id o, hG.get id = some o → id < Gn.g ∧ V.bares o.c = true) {h1 : H} (e : ev IP k f a hG = some (v, h1))
    (hsame : ∀ id, id < Gn.g → h1.get id = hG.get id) (h : H) (hh : Gn.g ≤ h.nx) (hrows : ∀ id, id < Gn.g → h.get id = hG.get id) {Q : V → H → Prop}
    (q : ∀ h', (∀ id, id < h.nx → h'.get id = h.get id) → h.nx ≤ h'.nx → Q v h') : @wF IP f a h ⟨Q⟩ := by
  have bareMap : ∀ id, (hG.get id).map (rnO (h.nx - Gn.g)) = hG.get id := by
    intro id
    cases hg : hG.get id with
    | none => rfl
    | some o =>
      have := (hGr id o hg).2
      simp only [Option.map_some, rnO]
      rw [rns_bare _ this]
  have s : Sh (h.nx - Gn.g) h hG h := by
    refine ⟨by rw [hGn, mv_new (Nat.le_refl _)]; omega, by rw [hGn]; exact Nat.le_refl _, fun id hid => ?_, fun _ _ _ => rfl, fun id hid => ?_⟩
    · rw [hGn] at hid
      rw [mv_g hid, bareMap, hrows id hid]
    · cases hg : hG.get id with
      | none => rfl
      | some o => have := (hGr id o hg).1; omega
  obtain ⟨h1', k1, k2⟩ := ev_lift hb k f a _ _ _ _ e s
  rw [rns_bare a ha, rn_bare v hv] at k1
  refine ⟨k, v, h1', k1, q h1' (fun id hid => ?_) ?_⟩
  · by_cases hlt : id < Gn.g
    · have hg := k2.get id (by have := k2.ge; omega)
      rw [mv_g hlt, hsame id hlt, bareMap] at hg
      rw [hg, hrows id hlt]
    · exact k2.low id (by omega) (by omega)
  · rw [k2.nx, mv_new k2.ge]
    have := k2.ge
    omega

/-- the check of a tree of functions -/
def trBare : Tr IFn → Bool
  | .l => true
  | .n a v b => trBare a && (match v with | some fn => fn.body.bare | none => true) && trBare b
theorem allBare : ∀ (t : Tr IFn), trBare t = true → AllBare t.get
  | .l, _ => fun f fn e => by simp [Tr.get] at e
  | .n a v b, h => fun f fn e => by
    simp only [trBare, Bool.and_eq_true] at h
    simp only [Tr.get] at e
    split at e
    · subst e; exact h.1.2
    · split at e
      · exact allBare a h.1.1 _ fn e
      · exact allBare b h.2 _ fn e
end
/-- with no package variable -/
instance noVar : Gn := ⟨0⟩
omit [Gn] in
/-- what runs in the empty heap and points to nothing, runs in any heap, and leaves what was there -/
theorem Fnc_any {IP : Nat → Option IFn} (hb : @AllBare noVar IP) (k : Nat) {f : Nat} {a : List V} (ha : V.bares a = true) {v : V} (hv : v.bare = true) (e : (ev IP k f a ⟨0, .l⟩).map (·.1) = some v) (h : H) {Q : V → H → Prop}
    (q : ∀ h', (∀ id, id < h.nx → h'.get id = h.get id) → h.nx ≤ h'.nx → Q v h') : @wF IP f a h ⟨Q⟩ := by
  cases hr : ev IP k f a ⟨0, .l⟩ with
  | none => rw [hr] at e; cases e
  | some r =>
    obtain ⟨u, h1⟩ := r
    rw [hr] at e
    simp only [Option.map_some, Option.some.injEq] at e
    subst e
    exact Fnc_any_g hb k ha hv ⟨0, .l⟩ rfl (fun id o e => by simp [H.get, Tr.get] at e) hr (fun id x => absurd x (Nat.not_lt_zero _)) h (Nat.zero_le _) (fun id x => absurd x (Nat.not_lt_zero _)) q
end Mx
