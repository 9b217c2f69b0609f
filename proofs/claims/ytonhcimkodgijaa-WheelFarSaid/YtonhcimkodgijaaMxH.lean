/-
  Loads, new rows, and what changes rows: the same in the abstract machine and in the loaded program.
-/
import Derived.Test.YtonhcimkodgijaaMxG
namespace Mx
open Go

section lists
theorem seg_lay {α : Type} (A us : List α) (sh len off : Nat) (h1 : off + us.length ≤ len) (h2 : sh + len ≤ A.length) :
    ((A.take (off + sh) ++ us ++ A.drop (off + sh + us.length)).drop sh).take len = ((A.drop sh).take len).take off ++ us ++ ((A.drop sh).take len).drop (off + us.length) := by
  have e1 : (A.take (off + sh)).drop sh = ((A.drop sh).take len).take off := by
    rw [List.drop_take, List.take_take]
    congr 1; omega
  have hl : (A.take (off + sh)).length = off + sh := by rw [List.length_take]; omega
  rw [List.append_assoc, List.drop_append_of_le_length (by omega), e1]
  have hl2 : (((A.drop sh).take len).take off).length = off := by simp only [List.length_take, List.length_drop]; omega
  rw [List.take_append, hl2, List.take_of_length_le (by omega), List.append_assoc]
  congr 1
  rw [List.take_append, List.take_of_length_le (by omega)]
  congr 1
  rw [List.drop_take, List.drop_drop]
  congr 1
  · omega
  · congr 1; omega

theorem seg_cut {α : Type} (A : List α) (sh len off n : Nat) (h : off + n ≤ len) : (((A.drop sh).take len).drop off).take n = (A.drop (off + sh)).take n := by
  rw [List.drop_take, List.drop_drop, List.take_take]
  congr 1
  · omega
  · congr 1; omega
end lists

section
variable {P : Program} {e : En} {w : World} {gs : Nat}

/-- a row's cells, as the world has them -/
theorem ORel.cells {o : O} {pl : Pl} (h : ORel e o pl w) {off n : Nat} (hb : off + n ≤ o.c.length) :
    ∃ vs : List Value, RL e ((o.c.drop off).take n) vs ∧ vs.length = n ∧ ∀ j v, vs[j]? = some v → w.cell? ((⟨pl.blk, off + pl.sh, none⟩ : Addr).add j) = some v := by
  obtain ⟨C, t, fz, h1, _, h3, h4⟩ := h
  refine ⟨(C.toList.drop (off + pl.sh)).take n, ?_, ?_, ?_⟩
  · rw [← seg_cut C.toList pl.sh o.c.length off n hb]
    exact (h4.drop off).take n
  · simp only [List.length_take, List.length_drop, Array.length_toList]; omega
  · intro j v hj
    rw [addr_add]
    rw [List.getElem?_take] at hj
    split at hj
    · rw [List.getElem?_drop] at hj
      simp only [World.cell?, h1, Option.isSome_none, Bool.false_eq_true, if_false]
      rw [← Array.getElem?_toList]
      exact hj
    · cases hj

theorem load_inv {h : H} {id off n : Nat} {l : List V} (hl : h.load id off n = some l) : ∃ o, h.get id = some o ∧ off + n ≤ o.c.length ∧ l = (o.c.drop off).take n := by
  unfold H.load at hl
  split at hl
  · rename_i o ho
    unfold cut at hl
    split at hl
    · rename_i hb; cases hl; exact ⟨o, ho, hb, rfl⟩
    · cases hl
  · cases hl

theorem load_cells {h : H} (s : Sim e h w) {id off n : Nat} {l : List V} (hl : h.load id off n = some l) {pl : Pl} (hp : e id = some pl) :
    ∃ vs : List Value, RL e l vs ∧ vs.length = n ∧ ∀ j v, vs[j]? = some v → w.cell? ((⟨pl.blk, off + pl.sh, none⟩ : Addr).add j) = some v := by
  obtain ⟨o, ho, hb, rfl⟩ := load_inv hl
  exact (s.obj id o pl ho hp).cells hb

theorem load_sound {h : H} (s : Sim e h w) (hg : Glob e gs) {ts : T} {a : Act} (hr : RL e ts a.tmps.toList) {o : Oper} {t : TypeId} {x : Operand} (hop : o.op = .load t x) {d : TypeDesc} {n : Nat} (hd : P.underlying t = some d) (hn : szOf P t = some n)
    {y : Opd} (hy : trO gs x = some y) {v : V} (hx : load1 ts h (isAggD d) n y = some v) :
    ∃ v', (execOp a.eval o).run P w = .ok (.value v') w ∧ R e v v' := by
  have r1 := trO_R hg hr hy
  unfold load1 at hx
  split at hx
  · rename_i id off hv
    rw [hv] at r1; simp only [R] at r1
    obtain ⟨pl, hp, r1⟩ := r1
    cases hA : isAggD d with
    | true =>
      simp only [hA, if_true] at hx
      split at hx
      · rename_i l hl
        cases hx
        obtain ⟨vs, k1, k2, k3⟩ := load_cells s hl hp
        have := run_loadCells_list (P := P) (w := w) ⟨pl.blk, off + pl.sh, none⟩ vs k3
        rw [k2] at this
        refine ⟨.agg vs.toArray, ?_, by simp only [R]; exact ⟨_, rfl, by simpa using k1⟩⟩
        simp [execOp, hop, Instr.loadAt, Instr.sureAddr, r1, loadVar, run_isAgg hd, hA, run_szOf hn, this]
      · cases hx
    | false =>
      simp only [hA, Bool.false_eq_true, if_false] at hx
      split at hx
      · rename_i u hl
        cases hx
        obtain ⟨vs, k1, k2, k3⟩ := load_cells s hl hp
        obtain ⟨u', r, rfl, ru, _⟩ := RL_cons_inv k1
        have hc := k3 0 u' rfl
        rw [addr_add] at hc
        refine ⟨u', ?_, ru⟩
        simp [execOp, hop, Instr.loadAt, Instr.sureAddr, r1, loadVar, run_isAgg hd, hA, run_load]
        simp only [Nat.add_zero] at hc
        simp [hc]
      · cases hx
  · cases hx

/-- no place is given yet for these numbers -/
def Fresh (e : En) (a b : Nat) : Prop := ∀ id, a ≤ id → id < b → e id = none

/-- what a step must show -/
def StepTo (e : En) (h : H) (w : World) (v : V) (h' : H) (v' : Value) (w' : World) : Prop := ∃ e', R e' v v' ∧ Sim e' h' w' ∧ St e h w e' h' w'

theorem new_step {h : H} (s : Sim e h w) (hf : e h.nx = none) (c : List V) (ro : Bool) (C : Array Value) (t : TypeId) (hc : RL e c C.toList) (v : V) (v' : Value)
    (hv : R (ext e h.nx ⟨w.heap.size, 0, C.size⟩) v v') : StepTo e h w v (h.new { ro := ro, c := c }) v' (w.alloc (.cells C t)) := by
  have hl := hc.length
  simp only [Array.length_toList] at hl
  obtain ⟨k1, k2⟩ := s.new hf { ro := ro, c := c } C t ⟨C.toList, by simp [hl], hc⟩
  exact ⟨_, hv, k1, k2⟩

theorem store_step {h h' : H} (s : Sim e h w) {id off : Nat} {xs : List V} (hs : h.store id off xs = some h') {pl : Pl} (hp : e id = some pl) {us : List Value} (ru : RL e xs us) (v : V) (v' : Value) (hv : R e v v') :
    ∃ w', (storeCells ⟨pl.blk, off + pl.sh, none⟩ us).run P w = .ok () w' ∧ StepTo e h w v h' v' w' := by
  unfold H.store at hs
  split at hs
  · rename_i o ho
    split at hs
    · rename_i hb
      cases hs
      obtain ⟨hro, hlen, hone⟩ := hb
      obtain ⟨C, t, fz, h1, h2, h3, h4⟩ := s.obj id o pl ho hp
      obtain ⟨rfl, hlim⟩ := h2 hro
      have hul := ru.length
      have hrun := run_storeCells_at P pl.blk (off + pl.sh) t us 0 C w h1 (by omega) (RL_one ru hone)
      simp only [Nat.add_zero] at hrun
      refine ⟨_, hrun, ?_⟩
      obtain ⟨k1, k2⟩ := s.write ho hro hp (lay o.c off xs) (C' := (C.toList.take (off + pl.sh) ++ us ++ C.toList.drop (off + pl.sh + us.length)).toArray) h1
        (by simp only [List.size_toArray, List.length_append, List.length_take, List.length_drop, Array.length_toList]; omega)
        (lay_length hlen)
        (by
          simp only []
          rw [seg_lay C.toList us pl.sh o.c.length off (by omega) (by simp only [Array.length_toList]; omega)]
          exact RL_lay h4 ru off)
      exact ⟨e, hv, k1, k2⟩
    · cases hs
  · cases hs

theorem toList_madeCells {z : List V} {zv : Array Value} (hz : RL e z zv.toList) (n : Nat) : RL e (zrep z n) (madeCells zv (n * z.length)).toList := by
  have hzl := hz.length
  simp only [Array.length_toList] at hzl
  induction n with
  | zero => simp [zrep, madeCells]; exact RL_nil
  | succ n ih =>
    have e1 : zrep z (n + 1) = zrep z n ++ z := by simp [zrep, List.replicate_succ']
    have e2 : (madeCells zv ((n + 1) * z.length)).toList = (madeCells zv (n * z.length)).toList ++ zv.toList := by
      simp only [madeCells, Array.toList_map, Array.toList_range, Nat.add_mul, Nat.one_mul, List.range_add, List.map_append, List.map_map]
      congr 1
      apply List.ext_getElem?
      intro j
      simp only [List.getElem?_map]
      by_cases hj : j < z.length
      · have hj2 : j < zv.size := by omega
        rw [List.getElem?_range hj]
        simp only [Option.map_some, Function.comp]
        rw [hzl, Nat.add_comm, Nat.add_mul_mod_self_right, Nat.mod_eq_of_lt hj2]
        simp [hj2]
      · rw [List.getElem?_eq_none (by simp; omega)]
        rw [List.getElem?_eq_none (by simp; omega)]
        rfl
    rw [e1, e2]
    exact ih.append hz

theorem zrep_length (z : List V) (n : Nat) : (zrep z n).length = n * z.length := by
  induction n with
  | zero => simp [zrep]
  | succ n ih => 
    have : zrep z (n + 1) = z ++ zrep z n := by simp [zrep, List.replicate_succ]
    rw [this, List.length_append, ih, Nat.add_mul, Nat.one_mul, Nat.add_comm]

end
end Mx
