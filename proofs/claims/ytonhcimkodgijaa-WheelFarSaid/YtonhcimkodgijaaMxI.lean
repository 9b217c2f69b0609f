/-
  Appending: the same in the abstract machine and in the loaded program, whether there is room or not.
-/
import Derived.Test.YtonhcimkodgijaaMxH
namespace Mx
open Go

section
variable {P : Program} {e : En} {w : World}

/-- a new row, of which a beginning alone is known -/
theorem new_step2 {h : H} (s : Sim e h w) (hf : e h.nx = none) (c : List V) (ro : Bool) (C : Array Value) (t : TypeId) (r rest : List Value) (hC : C.toList = r ++ rest) (hc : RL e c r) (v : V) (v' : Value)
    (hv : R (ext e h.nx ⟨w.heap.size, 0, C.size⟩) v v') : StepTo e h w v (h.new { ro := ro, c := c }) v' (w.alloc (.cells C t)) := by
  have hl := hc.length
  obtain ⟨k1, k2⟩ := s.new hf { ro := ro, c := c } C t ⟨r, by simp [hC, hl], hc⟩
  exact ⟨_, hv, k1, k2⟩

theorem StepTo.drew {h h' : H} {v : V} {v' : Value} {w' : World} (k : StepTo e h w.drew v h' v' w') : StepTo e h w v h' v' w' := by
  obtain ⟨e', h1, h2, h3⟩ := k
  exact ⟨e', h1, h2, ⟨h3.le, h3.dom, h3.nx, h3.img, h3.keep, h3.size, h3.os, h3.tape, h3.output, h3.any, h3.out⟩⟩

theorem run_append_zero {t el ty : TypeId} {i : TypeInfo} (ht : P.underlying t = some (.slice el)) (hi : P.info? el = some i) (base b : Option Addr) (sLen sCap c : Nat) (hle : sLen ≤ sCap) :
    (Builtin.append_ #[t, t] ty #[.slice base sLen sCap, .slice b 0 c]).run P w = .ok (.slice base sLen sCap) w := by
  cases base <;> cases b <;> simp [Builtin.append_, run_underlying ht, Go.sizeOf, typeInfo, hi, Builtin.lenOf, hle, Builtin.firstCells, loadCells, loadCellsFrom, storeCells]

theorem run_append_room' {t el ty : TypeId} {i : TypeInfo} (ht : P.underlying t = some (.slice el)) (hi : P.info? el = some i) (b : Addr) (sLen sCap : Nat) (a : Addr) (m c : Nat) (news : List Value) (hl : news.length = m * i.size)
    (hnews : ∀ j u, news[j]? = some u → w.cell? (a.add j) = some u) (hroom : sLen + m ≤ sCap) {w' : World} (hst : (storeCells (b.add (sLen * i.size)) news).run P w = .ok () w') :
    (Builtin.append_ #[t, t] ty #[.slice (some b) sLen sCap, .slice (some a) m c]).run P w = .ok (.slice (some b) (sLen + m) sCap) w' := by
  have hf := run_firstCells_some (P := P) w i.size m a m c news hl hnews
  simp [Builtin.append_, run_underlying ht, Go.sizeOf, typeInfo, hi, Builtin.lenOf, hroom, hf, hst]

theorem app_sound0 {t el ty : TypeId} {i : TypeInfo} {zv : Value} {z : List V} (ht : P.underlying t = some (.slice el)) (hi : P.info? el = some i) (hz : i.zero = some zv) (hzl : z.length = i.size) (rz : RL e z zv.cells.toList) (hpos : 0 < i.size)
    {h h' : H} (s : Sim e h w) (hf : Fresh e h.nx h'.nx) {S X v : V} {sv xv : Value} (rs : R e S sv) (rx : R e X xv) {n : Nat} {new : List V} (hn : lenV X = some n) (hnew : source i.size h X = some new)
    (ha : append1 i.size i.bytes h S n new = some (v, h')) (hol : ∀ id off len kn es, S = .sl id off len (.ol kn es) → n = 0) (hso : ∀ id off es, S = .so id off es → n ≠ 0 → ∃ a, sv = .slice (some a) 0 0 ∧ ∃ pl, e id = some pl ∧ 0 < es ∧ off + pl.sh ≤ pl.lim ∧ (pl.lim - (off + pl.sh)) / es = 0) :
    ∃ v' w', (Builtin.append_ #[t, t] ty #[sv, xv]).run P w = .ok v' w' ∧ StepTo e h w v h' v' w' := by
  have hzs : zv.cells.size = i.size := by have := rz.length; simp only [Array.length_toList] at this; omega
  unfold append1 at ha
  by_cases hn0 : n = 0
  · subst hn0
    rw [if_pos rfl] at ha
    split at ha
    · rename_i hsl
      cases ha
      have hx : ∃ b c, xv = .slice b 0 c := by
        cases X <;> simp [lenV] at hn
        · subst hn; simp only [R] at rx; obtain ⟨pl, _, _, rx⟩ := rx; exact ⟨_, _, rx⟩
        · simp only [R] at rx; exact ⟨_, _, rx⟩
        · simp only [R] at rx; obtain ⟨_, _, rx, _⟩ := rx; exact ⟨_, _, rx⟩
        · obtain ⟨_, _, rx, _⟩ := R_so rx; exact ⟨_, _, rx⟩
      obtain ⟨b, c, rfl⟩ := hx
      have hs : ∃ base len cap, sv = .slice base len cap ∧ len ≤ cap := by
        cases S <;> simp [V.isSl] at hsl
        · rename_i id off len cp
          simp only [R] at rs
          obtain ⟨pl, hpl, hok, rs⟩ := rs
          refine ⟨_, _, _, rs, ?_⟩
          cases cp with
          | ex cap => exact hok
          | op es => exact (Nat.le_div_iff_mul_le hok.1).2 (by have := hok.2; omega)
          | ol kn es => exact (Nat.le_div_iff_mul_le hok.1).2 (by have := Nat.mul_le_mul_right es hok.2.1; have := hok.2.2; omega)
        · simp only [R] at rs; exact ⟨_, _, _, rs, Nat.le_refl _⟩
        · simp only [R] at rs; obtain ⟨_, _, rs, _⟩ := rs; exact ⟨_, _, _, rs, Nat.zero_le _⟩
        · obtain ⟨_, _, rs, _⟩ := R_so rs; exact ⟨_, _, _, rs, Nat.zero_le _⟩
      obtain ⟨base, len, cap, rfl, hle⟩ := hs
      exact ⟨_, w, run_append_zero ht hi base b len cap c hle, e, rs, s, St.refl _ _ _⟩
    · cases ha
  · rw [if_neg hn0] at ha
    -- what is appended
    have hx : ∃ (xa : Addr) (c : Nat) (news : List Value), xv = .slice (some xa) n c ∧ RL e new news ∧ news.length = n * i.size ∧ ∀ j u, news[j]? = some u → w.cell? (xa.add j) = some u := by
      cases X <;> simp [lenV] at hn
      · rename_i id off len cp
        subst hn
        simp only [R] at rx
        obtain ⟨pl, hpl, _, rx⟩ := rx
        simp only [source] at hnew
        obtain ⟨vs, k1, k2, k3⟩ := load_cells s hnew hpl
        exact ⟨_, _, vs, rx, k1, k2, k3⟩
      · exact (hn0 hn.symm).elim
      · exact (hn0 hn.symm).elim
      · exact (hn0 hn.symm).elim
    obtain ⟨xa, c, news, rfl, rnew, hnl, hnews⟩ := hx
    have hlen := rnew.length
    have r47 : room = 140737488355328 := rfl
    have grow : ∀ (olds : List Value) (old : List V) (hh : H) (m : Nat) (cap0 : Nat), Sim e hh w → hh.nx = h.nx → St e h w e hh w → RL e old olds → olds.length = m * i.size → (m + n) * i.bytes * 2 ≤ room →
        Fresh e h.nx (h.nx + 1) →
        StepTo e h w (.sl h.nx 0 (m + n) (.op i.size)) (hh.new { ro := false, c := old ++ new }) (.slice (some ⟨w.heap.size, 0, none⟩) (m + n) (grownCap w (m + n) cap0 el))
          (w.drew.alloc (.cells (olds.toArray ++ news.toArray ++ Builtin.zeroCells zv.cells (grownCap w (m + n) cap0 el - (m + n))) el)) := by
      intro olds old hh m cap0 sh hnx hst ro hol hb hfr
      have hge := grownCap_ge w (m + n) cap0 el
      have hsz : (olds.toArray ++ news.toArray ++ Builtin.zeroCells zv.cells (grownCap w (m + n) cap0 el - (m + n))).size = grownCap w (m + n) cap0 el * i.size := by
        simp only [Array.size_append, List.size_toArray, size_zeroCells, hzs, hol, hnl, ← Nat.add_mul]
        congr 1; omega
      have k := new_step2 (w := w.drew) sh.drew (by rw [hnx]; exact hfr h.nx (Nat.le_refl _) (Nat.lt_succ_self _)) (old ++ new) false (olds.toArray ++ news.toArray ++ Builtin.zeroCells zv.cells (grownCap w (m + n) cap0 el - (m + n))) el (olds ++ news) (Builtin.zeroCells zv.cells (grownCap w (m + n) cap0 el - (m + n))).toList (by simp) (ro.append rnew)
        (.sl h.nx 0 (m + n) (.op i.size)) (.slice (some ⟨w.heap.size, 0, none⟩) (m + n) (grownCap w (m + n) cap0 el)) (by
          simp only [R]
          refine ⟨_, by rw [← hnx]; exact ext_same _ _ _, ?_, ?_⟩
          · simp only [capOk]
            refine ⟨hpos, ?_⟩
            rw [hsz]
            have := Nat.mul_le_mul_right i.size hge
            omega
          · simp only [capOf, hsz, Nat.add_zero, Nat.sub_zero, Nat.mul_div_cancel _ hpos, World.size_drew])
      obtain ⟨e', j1, j2, j3⟩ := k.drew
      exact ⟨e', j1, j2, hst.trans j3⟩
    have fits48 : ∀ m cap0, cap0 < m + n → (m + n) * i.bytes * 2 ≤ room → Builtin.nextslicecap (m + n) cap0 * i.bytes ≤ 281474976710656 := by
      intro m cap0 hc hb
      exact growslice_fits hc (by omega)
    cases S with
    | nsl =>
      simp only at ha
      split at ha
      · rename_i hb
        cases ha
        simp only [R] at rs; subst rs
        have hr := run_append_nil (P := P) w t ty el i zv ht hi hz xa n c news hnl hnews (by omega) (by omega) (by omega)
        refine ⟨_, _, hr, ?_⟩
        have := grow [] [] h 0 0 s rfl (St.refl _ _ _) RL_nil (by simp) (by simpa using hb.1) hf
        simpa using this
      · cases ha
    | es zz =>
      simp only at ha
      split at ha
      · rename_i hb
        cases ha
        obtain ⟨rfl, hb⟩ := hb
        simp only [R] at rs
        obtain ⟨sa, sc, rfl, hc0⟩ := rs
        have hc0 := hc0 (by first | rfl | trivial)
        subst hc0
        have hr := run_append_grow (P := P) w t ty el i zv ht hi hz sa 0 0 [] (by simp) (by simp) xa n c news hnl hnews (by omega) (by omega) (fits48 0 0 (by omega) (by simpa using hb.1))
        refine ⟨_, _, hr, ?_⟩
        have := grow [] [] h 0 0 s rfl (St.refl _ _ _) RL_nil (by simp) (by simpa using hb.1) hf
        simpa using this
      · cases ha
    | sl id off len cp =>
      simp only [R] at rs
      obtain ⟨pl, hpl, hok, rfl⟩ := rs
      cases cp with
      | ex cap =>
        simp only at ha
        simp only [capOk] at hok
        simp only [capOf]
        by_cases hroom : len + n ≤ cap
        · rw [if_pos hroom] at ha
          split at ha
          · rename_i h1 hst
            cases ha
            obtain ⟨w', k1, k2⟩ := store_step (P := P) s hst hpl rnew (.sl id off (len + n) (.ex cap)) (.slice (some ⟨pl.blk, off + pl.sh, none⟩) (len + n) cap) (by simp only [R]; exact ⟨pl, hpl, hroom, rfl⟩)
            refine ⟨_, w', run_append_room' ht hi _ len cap xa n c news hnl hnews hroom ?_, k2⟩
            rw [addr_add]
            have : off + pl.sh + len * i.size = off + len * i.size + pl.sh := by omega
            rw [this]; exact k1
          · cases ha
        · rw [if_neg hroom] at ha
          split at ha
          · rename_i hb
            split at ha
            · rename_i old hold
              cases ha
              obtain ⟨olds, k1, k2, k3⟩ := load_cells s hold hpl
              have hr := run_append_grow (P := P) w t ty el i zv ht hi hz _ len cap olds k2 k3 xa n c news hnl hnews (by omega) (by omega) (fits48 len cap (by omega) hb.1)
              exact ⟨_, _, hr, grow olds old h len cap s rfl (St.refl _ _ _) k1 k2 hb.1 hf⟩
            · cases ha
          · cases ha
      | ol kn es => exact (hn0 (hol _ _ _ _ _ rfl)).elim
      | op es =>
        simp only at ha
        split at ha
        · cases ha
        · rename_i hes
          have hes : es = i.size := Decidable.byContradiction hes
          subst hes
          split at ha
          · rename_i ob hob
            split at ha
            · cases ha
            · rename_i hro
              have hro : ob.ro = false := by simpa using hro
              obtain ⟨C, tb, fz, g1, g2, g3, g4⟩ := s.obj id ob pl hob hpl
              obtain ⟨rfl, hlim⟩ := g2 hro
              simp only [capOf]
              split at ha
              · rename_i hin
                split at ha
                · rename_i h1 hst
                  cases ha
                  have hmul : (len + n) * i.size = len * i.size + n * i.size := Nat.add_mul _ _ _
                  have hroom : len + n ≤ (pl.lim - (off + pl.sh)) / i.size := (Nat.le_div_iff_mul_le hpos).2 (by omega)
                  obtain ⟨w', k1, k2⟩ := store_step (P := P) s hst hpl rnew (.sl id off (len + n) (.op i.size)) (.slice (some ⟨pl.blk, off + pl.sh, none⟩) (len + n) ((pl.lim - (off + pl.sh)) / i.size)) (by simp only [R]; exact ⟨pl, hpl, ⟨hpos, by omega⟩, rfl⟩)
                  refine ⟨_, w', run_append_room' ht hi _ len _ xa n c news hnl hnews hroom ?_, k2⟩
                  rw [addr_add]
                  have : off + pl.sh + len * i.size = off + len * i.size + pl.sh := by omega
                  rw [this]; exact k1
                · cases ha
              · rename_i hin
                split at ha
                · rename_i hb
                  split at ha
                  · rename_i old hold
                    cases ha
                    obtain ⟨olds, k1, k2, k3⟩ := load_cells s hold hpl
                    have hfr : Fresh e h.nx (h.nx + 1) := hf
                    obtain ⟨ob2, hob2, hbo, hol⟩ := load_inv hold
                    rw [hob] at hob2; cases hob2
                    by_cases hroom : len + n ≤ (pl.lim - (off + pl.sh)) / i.size
                    · -- there is room after all
                      have hcells : (len + n) * i.size ≤ pl.lim - (off + pl.sh) := (Nat.le_div_iff_mul_le hpos).1 hroom
                      have hmul : (len + n) * i.size = len * i.size + n * i.size := Nat.add_mul _ _ _
                      have hrun := run_storeCells_at P pl.blk (off + pl.sh + len * i.size) tb news 0 C w g1 (by omega) (RL_one rnew hb.2.2)
                      simp only [Nat.add_zero] at hrun
                      refine ⟨_, _, run_append_room' ht hi _ len _ xa n c news hnl hnews hroom (by rw [addr_add]; exact hrun), ?_⟩
                      have hold2 : RL e old ((C.toList.drop (off + pl.sh)).take (len * i.size)) := by
                        rw [hol, ← seg_cut C.toList pl.sh ob.c.length off (len * i.size) hbo]
                        exact (g4.drop off).take _
                      have hon : (old ++ new).length = (len + n) * i.size := by
                        rw [List.length_append, hlen, hnl, k1.length, k2]; omega
                      have hmove := s.move (hfr h.nx (Nat.le_refl _) (Nat.lt_succ_self _)) hob hro hpl (old ++ new) (off + pl.sh)
                        (C' := (C.toList.take (off + pl.sh + len * i.size) ++ news ++ C.toList.drop (off + pl.sh + len * i.size + news.length)).toArray) g1
                        (by simp only [List.size_toArray, List.length_append, List.length_take, List.length_drop, Array.length_toList]; omega)
                        (by omega)
                        (by
                          simp only []
                          have e0 : off + pl.sh + len * i.size = len * i.size + (off + pl.sh) := by omega
                          rw [hon, e0, seg_lay C.toList news (off + pl.sh) ((len + n) * i.size) (len * i.size) (by omega) (by simp only [Array.length_toList]; omega)]
                          have hd : ((C.toList.drop (off + pl.sh)).take ((len + n) * i.size)).drop (len * i.size + news.length) = [] := List.drop_eq_nil_of_le (by simp only [List.length_take, List.length_drop, Array.length_toList]; omega)
                          rw [hd, List.append_nil]
                          refine RL.append ?_ rnew
                          rw [List.take_take, Nat.min_eq_left (by omega)]
                          exact hold2)
                      refine ⟨_, ?_, hmove.1, hmove.2⟩
                      simp only [R]
                      exact ⟨_, ext_same _ _ _, ⟨hpos, by simp only; omega⟩, by simp [capOf]⟩
                    · have hr := run_append_grow (P := P) w t ty el i zv ht hi hz _ len _ olds k2 k3 xa n c news hnl hnews (Nat.lt_of_not_le hroom) (by omega) (fits48 len _ (Nat.lt_of_not_le hroom) hb.1)
                      obtain ⟨q1, q2⟩ := s.kill id (by rw [hpl]; simp)
                      exact ⟨_, _, hr, grow olds old (h.kill id) len _ q1 rfl q2 k1 k2 hb.1 hfr⟩
                  · cases ha
                · cases ha
          · cases ha
    | so id off es =>
      obtain ⟨sa, rfl, pl, hpl, hes0, hle, hcap⟩ := hso id off es rfl hn0
      simp only at ha
      split at ha
      · cases ha
      · rename_i hes
        have hes : es = i.size := Decidable.byContradiction hes
        subst hes
        split at ha
        · rename_i ob hob
          split at ha
          · cases ha
          · rename_i hro
            have hro : ob.ro = false := by simpa using hro
            obtain ⟨C, tb, fz, g1, g2, g3, g4⟩ := s.obj id ob pl hob hpl
            obtain ⟨rfl, hlim⟩ := g2 hro
            split at ha
            · rename_i hin
              have : 0 + n ≤ (pl.lim - (off + pl.sh)) / i.size := (Nat.le_div_iff_mul_le hpos).2 (by omega)
              omega
            · split at ha
              · rename_i hb
                split at ha
                · rename_i old hold
                  cases ha
                  obtain ⟨olds, k1, k2, k3⟩ := load_cells s hold hpl
                  have h0 : old = [] := List.eq_nil_of_length_eq_zero (by rw [k1.length, k2]; simp)
                  subst h0
                  have hr := run_append_grow (P := P) w t ty el i zv ht hi hz sa 0 0 [] (by simp) (by simp) xa n c news hnl hnews (by omega) (by omega) (fits48 0 0 (by omega) hb.1)
                  obtain ⟨q1, q2⟩ := s.kill id (by rw [hpl]; simp)
                  refine ⟨_, _, hr, ?_⟩
                  have := grow [] [] (h.kill id) 0 0 q1 rfl q2 RL_nil (by simp) hb.1 hf
                  simpa using this
                · cases ha
              · cases ha
        · cases ha
    | _ => simp at ha

theorem app_sound {t el ty : TypeId} {i : TypeInfo} {zv : Value} {z : List V} (ht : P.underlying t = some (.slice el)) (hi : P.info? el = some i) (hz : i.zero = some zv) (hzl : z.length = i.size) (rz : RL e z zv.cells.toList) (hpos : 0 < i.size)
    {h h' : H} (s : Sim e h w) (hf : Fresh e h.nx h'.nx) {S X v : V} {sv xv : Value} (rs : R e S sv) (rx : R e X xv) {n : Nat} {new : List V} (hn : lenV X = some n) (hnew : source i.size h X = some new)
    (ha : append1 i.size i.bytes h S n new = some (v, h')) :
    ∃ v' w', (Builtin.append_ #[t, t] ty #[sv, xv]).run P w = .ok v' w' ∧ StepTo e h w v h' v' w' := by
  by_cases hc2 : ∃ id off len kn es, S = .sl id off len (.ol kn es) ∧ n ≠ 0
  · obtain ⟨id, off, len, kn, es, rfl, hn0⟩ := hc2
    refine app_sound0 ht hi hz hzl rz hpos s hf (R_ol rs) rx hn hnew ?_ (fun _ _ _ _ _ h => by cases h) (fun _ _ _ h => by cases h)
    unfold append1 at ha ⊢
    rw [if_neg hn0] at ha ⊢
    exact ha
  by_cases hc : ∃ id off es, S = .so id off es ∧ n ≠ 0 ∧ R e (.sl id off 0 (.op es)) sv
  · obtain ⟨id, off, es, rfl, hn0, r1⟩ := hc
    refine app_sound0 ht hi hz hzl rz hpos s hf r1 rx hn hnew ?_ (fun _ _ _ _ _ h => by cases h) (fun _ _ _ h => by cases h)
    unfold append1 at ha ⊢
    rw [if_neg hn0] at ha ⊢
    exact ha
  · refine app_sound0 ht hi hz hzl rz hpos s hf rs rx hn hnew ha (fun id off len kn es hS => ?_) ?_
    · exact Decidable.byContradiction fun hn0 => hc2 ⟨id, off, len, kn, es, hS, hn0⟩
    intro id off es hS hn0
    subst hS
    obtain ⟨a, c, hv, h1 | ⟨rfl, h2⟩⟩ := R_so rs
    · exact (hc ⟨id, off, es, rfl, hn0, h1⟩).elim
    · exact ⟨a, hv, h2⟩

theorem run_appz_zero {t u el ty : TypeId} {i : TypeInfo} (ht : P.underlying t = some (.slice el)) (hu : P.underlying u = some (.int .i64)) (hi : P.info? el = some i) (base : Option Addr) (sLen sCap : Nat) (hle : sLen ≤ sCap) :
    (Builtin.append_ #[t, u] ty #[.slice base sLen sCap, .int .i64 0]).run P w = .ok (.slice base sLen sCap) w := by
  have hw : IntKind.i64.wrap 0 = 0 := by decide
  cases base <;> simp [Builtin.append_, run_underlying ht, run_underlying hu, Go.sizeOf, typeInfo, hi, asInt, asIntOf, hw, hle, storeCells]

theorem run_appz_nil {t u el ty : TypeId} {i : TypeInfo} {z : Value} (ht : P.underlying t = some (.slice el)) (hu : P.underlying u = some (.int .i64)) (hi : P.info? el = some i) (hz : i.zero = some z) (n : Nat) (h0 : 0 < n) (hn : 0 < i.size) (hb : n * i.bytes * 2 ≤ 140737488355328) (hr : n ≤ 140737488355328) :
    (Builtin.append_ #[t, u] ty #[.slice none 0 0, .int .i64 n]).run P w =
      .ok (.slice (some ⟨w.heap.size, 0, none⟩) n (grownCap w n 0 el)) (w.drew.alloc (.cells (Builtin.zeroCells z.cells n ++ Builtin.zeroCells z.cells (grownCap w n 0 el - n)) el)) := by
  have hw : IntKind.i64.wrap (n : Int) = n := by rw [IntKind.wrap_i64]; omega
  have h1 : ¬ ((n : Int) < 0) := by omega
  have h2 : ¬ (281474976710656 < (n : Int) * (i.bytes : Int)) := by
    have : ((n * i.bytes : Nat) : Int) ≤ 140737488355328 := by omega
    rw [Int.natCast_mul] at this; omega
  have h3 : ¬ (n = 0) := by omega
  have h4 : ¬ (9223372036854775807 < (n : Int)) := by omega
  have h5 : ¬ (281474976710656 < Builtin.nextslicecap n 0 * i.bytes) := by rw [nextslicecap_zero h0]; omega
  have h6 : ¬ (n = 0 ∨ i.size = 0) := by omega
  simp [Builtin.append_, run_underlying ht, run_underlying hu, Go.sizeOf, typeInfo, zeroValue, hi, hz, asInt, asIntOf, hw, h1, h2, h3, h4, h5, Question.forced, run_firstCells_none, newRow, grownCap]
  intro hx
  exact (h6 (Nat.mul_eq_zero.1 hx)).elim

theorem appz_sound {t u el ty : TypeId} {i : TypeInfo} {zv : Value} {z : List V} (ht : P.underlying t = some (.slice el)) (hu : P.underlying u = some (.int .i64)) (hi : P.info? el = some i) (hz : i.zero = some zv) (hzl : z.length = i.size) (rz : RL e z zv.cells.toList) (hpos : 0 < i.size)
    {h h' : H} (s : Sim e h w) (hf : Fresh e h.nx h'.nx) {S N v : V} {sv nv : Value} (rs : R e S sv) (rn : R e N nv) (ha : appz1 i.size i.bytes z h S N = some (v, h')) :
    ∃ v' w', (Builtin.append_ #[t, u] ty #[sv, nv]).run P w = .ok v' w' ∧ StepTo e h w v h' v' w' := by
  have hzs : zv.cells.size = i.size := by have := rz.length; simp only [Array.length_toList] at this; omega
  unfold appz1 at ha
  split at ha
  · rename_i m
    simp only [R] at rn; subst rn
    split at ha
    · rename_i hm
      subst hm
      split at ha
      · rename_i hsl
        cases ha
        have hs : ∃ base len cap, sv = .slice base len cap ∧ len ≤ cap := by
          cases S <;> simp [V.isSl] at hsl
          · rename_i id off len cp
            simp only [R] at rs
            obtain ⟨pl, hpl, hok, rs⟩ := rs
            refine ⟨_, _, _, rs, ?_⟩
            cases cp with
            | ex cap => exact hok
            | op es => exact (Nat.le_div_iff_mul_le hok.1).2 (by have := hok.2; omega)
            | ol kn es => exact (Nat.le_div_iff_mul_le hok.1).2 (by have := Nat.mul_le_mul_right es hok.2.1; have := hok.2.2; omega)
          · simp only [R] at rs; exact ⟨_, _, _, rs, Nat.le_refl _⟩
          · simp only [R] at rs; obtain ⟨_, _, rs, _⟩ := rs; exact ⟨_, _, _, rs, Nat.zero_le _⟩
          · obtain ⟨_, _, rs, _⟩ := R_so rs; exact ⟨_, _, _, rs, Nat.zero_le _⟩
        obtain ⟨base, len, cap, rfl, hle⟩ := hs
        exact ⟨_, w, run_appz_zero ht hu hi base len cap hle, e, rs, s, St.refl _ _ _⟩
      · cases ha
    · split at ha
      · split at ha
        · rename_i hc
          cases ha
          obtain ⟨n, rfl⟩ := Int.eq_ofNat_of_zero_le (show 0 ≤ m by omega)
          simp only [Int.toNat_natCast] at hc hf ⊢
          have r47 : room = 140737488355328 := rfl
          simp only [R] at rs; subst rs
          have hge := grownCap_ge w n 0 el
          have hsz : (Builtin.zeroCells zv.cells n ++ Builtin.zeroCells zv.cells (grownCap w n 0 el - n)).size = grownCap w n 0 el * i.size := by
            simp only [Array.size_append, size_zeroCells, hzs, ← Nat.add_mul]
            congr 1; omega
          refine ⟨_, _, run_appz_nil ht hu hi hz n (by omega) hpos (by omega) (by omega), ?_⟩
          have hrz : RL e (zrep z n) (Builtin.zeroCells zv.cells n).toList := by
            have := toList_madeCells (e := e) rz n
            rw [hzl, ← hzs] at this
            exact this
          have k := new_step2 (w := w.drew) s.drew (hf h.nx (Nat.le_refl _) (Nat.lt_succ_self _)) (zrep z n) false (Builtin.zeroCells zv.cells n ++ Builtin.zeroCells zv.cells (grownCap w n 0 el - n)) el (Builtin.zeroCells zv.cells n).toList (Builtin.zeroCells zv.cells (grownCap w n 0 el - n)).toList (by simp) hrz
            (.sl h.nx 0 n (.op i.size)) (.slice (some ⟨w.heap.size, 0, none⟩) n (grownCap w n 0 el)) (by
              simp only [R]
              refine ⟨_, ext_same _ _ _, ?_, ?_⟩
              · simp only [capOk]
                refine ⟨hpos, ?_⟩
                rw [hsz]
                have := Nat.mul_le_mul_right i.size hge
                omega
              · simp only [capOf, hsz, Nat.add_zero, Nat.sub_zero, Nat.mul_div_cancel _ hpos, World.size_drew])
          exact k.drew
        · cases ha
      · cases ha
  · cases ha
end
end Mx
