/-
  A statement whose operations may come up in more than one order: it comes to what the text's order comes to.
-/
import Derived.Test.YtgjhicaiibomeaaMxM
namespace Mx
open Go

theorem trOpers_get {P : Program} {gs : Nat} {ops : Array Oper} : ∀ {l : List Oper} {il : List IOp}, trOpers P gs ops l = some il → il.length = l.length ∧ ∀ (i : Nat) (o : Oper), l[i]? = some o → ∃ io, il[i]? = some io ∧ trOper P gs ops o = some io
  | [], il, h => by simp only [trOpers] at h; cases h; exact ⟨rfl, fun i o h => by simp at h⟩
  | o :: l, il, h => by
    simp only [trOpers] at h
    split at h
    · rename_i x r h1 h2
      cases h
      obtain ⟨k1, k2⟩ := trOpers_get h2
      refine ⟨by simp [k1], fun i oi hi => ?_⟩
      cases i with
      | zero => simp at hi; subst hi; exact ⟨x, rfl, h1⟩
      | succ i => obtain ⟨io, h3, h4⟩ := k2 i oi (by simpa using hi); exact ⟨io, by simpa using h3, h4⟩
    · cases h

section
variable {P : Program} {gs : Nat} {C : Nat → List V → H → Option (V × H)} {ops : Array Oper} {il : List IOp} {pairs : List (Nat × Nat)} {S : Nat → T × H} {e0 : En} {w0 : World} {ds : List Deferred}

/-- what holds when these operations are done -/
def Inv (il : List IOp) (S : Nat → T × H) (e0 : En) (w0 : World) (ds : List Deferred) (D : Nat → Bool) (a : Act) (w : World) : Prop :=
  ∃ e, a.tmps.size = (S 0).1.length ∧ (∀ t, t < (S 0).1.length → R e (val il S D il.length t) (a.tmps.getD t undef)) ∧ Sim e (S (top il D il.length)).2 w ∧ St e0 (S 0).2 w0 e (S (top il D il.length)).2 w ∧ a.defers = ds

def add (D : Nat → Bool) (j : Nat) : Nat → Bool := fun i => if i = j then true else D i

theorem top_congr {D D' : Nat → Bool} : ∀ m, (∀ i o, i < m → il[i]? = some o → heapy o = true → D i = D' i) → top il D m = top il D' m
  | 0, _ => rfl
  | m + 1, h => by
    unfold top
    rw [top_congr m fun i o hi => h i o (by omega)]
    cases ho : il[m]? with
    | none => simp
    | some o =>
      simp only [Option.map_some, Option.some.injEq]
      by_cases hh : heapy o = true
      · rw [h m o (by omega) ho hh]
      · rw [if_neg (fun x => hh x.2), if_neg (fun x => hh x.2)]

theorem top_eq {D : Nat → Bool} {j : Nat} {o : IOp} (ho : il[j]? = some o) (hh : heapy o = true) (hD : D j = true) : ∀ m, j < m → (∀ i o, j < i → i < m → il[i]? = some o → heapy o = true → D i = false) → top il D m = j + 1
  | 0, h, _ => by omega
  | m + 1, h, hn => by
    unfold top
    by_cases hm : m = j
    · subst hm; rw [if_pos ⟨hD, by rw [ho]; simp [hh]⟩]
    · rw [if_neg]
      · exact top_eq ho hh hD m (by omega) fun i o h1 h2 => hn i o h1 (by omega)
      · rintro ⟨h1, h2⟩
        cases hom : il[m]? with
        | none => rw [hom] at h2; cases h2
        | some om =>
          rw [hom] at h2; simp only [Option.map_some, Option.some.injEq] at h2
          rw [hn m om (by omega) (by omega) hom h2] at h1; cases h1

theorem steps_nx (hN : NxMono C) (hS : Steps1 C il S) : ∀ d a, a + d ≤ il.length → (S a).2.nx ≤ (S (a + d)).2.nx
  | 0, _, _ => Nat.le_refl _
  | d + 1, a, h => by
    have ho : il[a + d]? = some il[a + d] := List.getElem?_eq_getElem (by omega)
    exact Nat.le_trans (steps_nx hN hS d a (by omega)) (iop_nx hN (hS _ _ ho))

theorem steps_wf (hN : NxMono C) (hS : Steps1 C il S) (k : HWf (S 0).2) : ∀ i, i ≤ il.length → HWf (S i).2
  | 0, _ => k
  | i + 1, h => by
    have ho : il[i]? = some il[i] := List.getElem?_eq_getElem (by omega)
    exact iop_wf hN (hS _ _ ho) (steps_wf hN hS k i (by omega))

theorem new_load {h : H} (k : O) {id off n : Nat} (hid : id < h.nx) : (h.new k).load id off n = h.load id off n := by
  unfold H.load
  rw [H.get_new, if_neg (by omega)]

theorem alloc_load {ts : T} {h h' : H} {o : AO} {v : V} (hx : alloc1 ts h o = some (v, h')) {id off n : Nat} (hid : id < h.nx) : h'.load id off n = h.load id off n := by
  unfold alloc1 at hx
  repeat' (split at hx)
  all_goals first
    | (cases hx; done)
    | (cases hx; exact new_load _ hid)

theorem draw_step (hC : CallOK P gs C) (hN : NxMono C) (htr : trOpers P gs ops ops.toList = some il) (hS : Steps1 C il S)
    (hsteady : ∀ (l k : Nat) (ol ok : IOp), (l, k) ∈ pairs → il[l]? = some ol → il[k]? = some ok → ∀ agg n x, ol.op = .ld agg n x → wants (S l).1 ol.guard = some true → ∀ id off, opd (S l).1 x = .p (some (id, off)) → (S k).2.nx ≤ id ∨ ∃ c, (S k).2.load id off (if agg then n else 1) = some c ∧ (S (k + 1)).2.load id off (if agg then n else 1) = some c)
    (hwf : HWf (S 0).2) (hok : drawOK ops il pairs = true) (hg0 : Glob e0 gs) (hf0 : Fresh e0 (S 0).2.nx (S il.length).2.nx)
    {D : Nat → Bool} (hcl : Closed ops D) {j : Nat} {o : Oper} (ho : ops[j]? = some o) (hnj : D j = false) (hdj : ∀ d ∈ dirs o, D d = true) (hDn : ∀ i, il.length ≤ i → D i = false)
    {a : Act} {w : World} (hinv : Inv il S e0 w0 ds D a w) {K : Act → World → Prop} {Q : Exit → Act → World → Prop} (hK : ∀ a' w', Inv il S e0 w0 ds (add D j) a' w' → K a' w') : wpOp P ops Q j K a w := by
  obtain ⟨hil, hget⟩ := trOpers_get htr
  obtain ⟨io, hio, hto⟩ := hget j o (by simpa using ho)
  have hn : il.length = ops.size := by rw [hil]; simp
  have hj : j < ops.size := (Array.getElem?_eq_some_iff.1 ho).1
  obtain ⟨hdlt, hpair⟩ := drawOK_spec hok
  obtain ⟨e, hsz, hval, hsim, hst, hds⟩ := hinv
  have hbefore : ∀ i, bef ops i j = true → D i = true := closed_bef hcl j o ho hdj
  have hafter : ∀ i, D i = true → bef ops j i = true → False := by
    intro i hi hb
    have hil' : i < il.length := Nat.lt_of_not_le fun h => by rw [hDn i h] at hi; cases hi
    have hoi : ops[i]? = some ops[i] := Array.getElem?_eq_getElem (by omega)
    have := closed_bef hcl i _ hoi (hcl i _ hoi hi) j hb
    rw [hnj] at this; cases this
  have pairs_of : ∀ (i : Nat) (oi : IOp), i ≠ j → il[i]? = some oi → (i < j → pairOK ops il pairs i j = true) ∧ (j < i → pairOK ops il pairs j i = true) := by
    intro i oi hij hoi
    have hi : i < il.length := (List.getElem?_eq_some_iff.1 hoi).1
    exact ⟨fun h => hpair i j h hj, fun h => hpair j i h (by omega)⟩
  -- who clashes with j is done, or is not yet
  have ordered : ∀ (i : Nat) (oi : IOp), i ≠ j → il[i]? = some oi → ((i < j → clash oi io = true) ∧ (j < i → clash io oi = true) ∨ (heapy oi = true ∧ heapy io = true)) → (i < j → D i = true) ∧ (j < i → D i = false) := by
    intro i oi hij hoi hc
    obtain ⟨p1, p2⟩ := pairs_of i oi hij hoi
    refine ⟨fun h => ?_, fun h => ?_⟩
    · have := p1 h
      unfold pairOK at this
      rw [hoi, hio] at this
      simp only [Bool.or_eq_true, Bool.and_eq_true, Bool.not_eq_true'] at this
      rcases this with hb | ⟨⟨⟨h1, h2⟩, _⟩, _⟩
      · exact hbefore i hb
      · rcases hc with hc | ⟨hc1, hc2⟩
        · rw [hc.1 h] at h1; cases h1
        · rw [hc1, hc2] at h2; cases h2
    · have := p2 h
      unfold pairOK at this
      rw [hoi, hio] at this
      simp only [Bool.or_eq_true, Bool.and_eq_true, Bool.not_eq_true'] at this
      rcases this with hb | ⟨⟨⟨h1, h2⟩, _⟩, _⟩
      · cases hDi : D i with
        | false => rfl
        | true => exact (hafter i hDi hb).elim
      · rcases hc with hc | ⟨hc1, hc2⟩
        · rw [hc.2 h] at h1; cases h1
        · rw [hc2, hc1] at h2; cases h2
  have wr_of : ∀ {t : Nat} {l : List Nat} {x : IOp}, x.dst = some t → t ∈ l → wr x l = true := by
    intro t l x hx ht
    unfold wr; rw [hx]; simpa using ht
  have hlen : (S j).1.length = (S 0).1.length := frame_length hS j (by omega)
  -- what j reads
  have reads : ∀ t ∈ io.rd, val il S D il.length t = (S j).1.getD t undefV := by
    intro t ht
    have key : ∀ (i : Nat) (oi : IOp), i ≠ j → il[i]? = some oi → oi.dst = some t → (i < j → D i = true) ∧ (j < i → D i = false) := by
      intro i oi hij hoi hd
      refine ordered i oi hij hoi (.inl ⟨fun _ => ?_, fun _ => ?_⟩)
      · unfold clash; rw [wr_of hd ht]; rfl
      · unfold clash; rw [wr_of hd ht]; simp
    have := val_at hS (D := D) (j := j) (t := t) (fun i oi h1 h2 h3 => (key i oi (by omega) h2 h3).1 h1)
      (fun i oi h1 h2 h3 => by
        by_cases hij : i = j
        · subst hij; exact hnj
        · exact (key i oi hij h2 h3).2 (by omega)) il.length (Nat.le_refl _)
    rw [Nat.min_eq_right (by omega)] at this
    exact this
  -- the frame as the abstract machine has it
  let T' : T := (List.range (S 0).1.length).map (val il S D il.length)
  have hT'l : T'.length = (S 0).1.length := by simp [T']
  have hT' : ∀ t, t < (S 0).1.length → T'.getD t undefV = val il S D il.length t := by
    intro t ht
    simp only [T', List.getD_eq_getElem?_getD, List.getElem?_map, List.getElem?_range ht, Option.map_some, Option.getD_some]
  have hagree : Agree io.rd T' (S j).1 := by
    intro t ht
    by_cases hlt : t < (S 0).1.length
    · rw [hT' t hlt]; exact reads t ht
    · simp only [List.getD_eq_getElem?_getD]
      rw [List.getElem?_eq_none (by omega), List.getElem?_eq_none (by omega)]
  have hrel : RL e T' a.tmps.toList := by
    refine RL.of (by simp [hT'l, hsz]) fun t x hx => ?_
    have hlt : t < (S 0).1.length := by rw [← hT'l]; exact (List.getElem?_eq_some_iff.1 hx).1
    have h1 := hval t hlt
    rw [← hT' t hlt] at h1
    simp only [List.getD_eq_getElem?_getD, hx, Option.getD_some] at h1
    have hlt2 : t < a.tmps.size := by omega
    refine ⟨a.tmps[t], by simp [hlt2], ?_⟩
    simpa [hlt2] using h1
  have hwant : wants T' io.guard = wants (S j).1 io.guard := wants_congr (by rw [hT'l, hlen]) fun t x hx => hagree t (by unfold IOp.rd; rw [hx]; simp)
  have hopr : Agree io.op.rd T' (S j).1 := fun t ht => hagree t (by unfold IOp.rd; simp [ht])
  -- the new frame's values
  have newval : ∀ v, (S (j + 1)).1 = putT (S j).1 io.dst v → ∀ t, t < (S 0).1.length → val il S (add D j) il.length t = if io.dst = some t then v else val il S D il.length t := by
    intro v hv t ht
    by_cases hd : io.dst = some t
    · rw [if_pos hd]
      have key : ∀ (i : Nat) (oi : IOp), i ≠ j → il[i]? = some oi → oi.dst = some t → (i < j → D i = true) ∧ (j < i → D i = false) := by
        intro i oi hij hoi hdi
        refine ordered i oi hij hoi (.inl ⟨fun _ => ?_, fun _ => ?_⟩)
        · unfold clash; rw [hd, hdi]; simp
        · unfold clash; rw [hd, hdi]; simp
      have := val_at hS (D := add D j) (j := j + 1) (t := t)
        (fun i oi h1 h2 h3 => by
          unfold add
          by_cases hij : i = j
          · rw [if_pos hij]
          · rw [if_neg hij]; exact (key i oi hij h2 h3).1 (by omega))
        (fun i oi h1 h2 h3 => by
          unfold add
          rw [if_neg (by omega)]
          exact (key i oi (by omega) h2 h3).2 (by omega)) il.length (Nat.le_refl _)
      rw [this, Nat.min_eq_right (by omega), hv, hd, putT_same (by omega)]
    · rw [if_neg hd]
      refine val_congr il.length fun i oi _ h2 h3 => ?_
      unfold add
      rw [if_neg]
      rintro rfl
      rw [hio] at h2; cases h2
      exact hd h3
  have finish : ∀ (v : V) (v' : Value) (e' : En) (w' : World), (S (j + 1)).1 = putT (S j).1 io.dst v → Le e e' → R e' v v' → Sim e' (S (top il (add D j) il.length)).2 w' → St e0 (S 0).2 w0 e' (S (top il (add D j) il.length)).2 w' →
      Inv il S e0 w0 ds (add D j) (a.put io.dst v') w' := by
    intro v v' e' w' hv hle rv hs' hst'
    refine ⟨e', ?_, ?_, hs', hst', by rw [put_defers]; exact hds⟩
    · cases io.dst <;> simp [Act.put, hsz]
    · intro t ht
      rw [newval v hv t ht]
      by_cases hd : io.dst = some t
      · rw [if_pos hd, hd]
        have : (a.put (some t) v').tmps.getD t undef = v' := by
          simp only [Act.put, Array.getD_eq_getD_getElem?]
          rw [Array.getElem?_setIfInBounds_self_of_lt (by omega)]; rfl
        rw [this]; exact rv
      · rw [if_neg hd]
        have : (a.put io.dst v').tmps.getD t undef = a.tmps.getD t undef := by
          cases hio' : io.dst with
          | none => rfl
          | some d =>
            have hne : d ≠ t := fun h => hd (by rw [hio', h])
            simp only [Act.put, Array.getD_eq_getD_getElem?, Array.getElem?_setIfInBounds_ne hne]
        rw [this]; exact R.mono hle _ _ (hval t ht)
  -- the heap, where j changes it
  have heap_at : heapy io = true → (S (top il D il.length)).2 = (S j).2 ∧ top il (add D j) il.length = j + 1 := by
    intro hh
    have key : ∀ (i : Nat) (oi : IOp), i ≠ j → il[i]? = some oi → heapy oi = true → (i < j → D i = true) ∧ (j < i → D i = false) := fun i oi hij hoi hhi => ordered i oi hij hoi (.inr ⟨hhi, hh⟩)
    refine ⟨?_, ?_⟩
    · have hle : top il D il.length ≤ j := by
        refine Nat.le_of_not_lt fun hlt => ?_
        obtain ⟨h1, h2⟩ := top_is (il := il) (D := D) il.length (by omega)
        cases hoi : il[top il D il.length - 1]? with
        | none => rw [hoi] at h2; cases h2
        | some oi =>
          rw [hoi] at h2; simp only [Option.map_some, Option.some.injEq] at h2
          by_cases hij : top il D il.length - 1 = j
          · rw [hij, hnj] at h1; cases h1
          · have := (key _ oi hij hoi h2).2 (by omega)
            rw [this] at h1; cases h1
      have := same_heaps hS (j - top il D il.length) (top il D il.length) (by omega) (fun i oi h1 h2 h3 => by
        cases hh' : heapy oi with
        | false => rfl
        | true =>
          have hDi := (key i oi (by omega) h3 hh').1 (by omega)
          exact (top_after il.length i h1 (by omega) ⟨hDi, by rw [h3]; simp [hh']⟩).elim)
      rw [show top il D il.length + (j - top il D il.length) = j by omega] at this
      exact this.symm
    · exact top_eq hio hh (by simp [add]) il.length (by omega) fun i oi h1 _ h3 h4 => by
        unfold add; rw [if_neg (by omega)]; exact (key i oi (by omega) h3 h4).2 h1
  have heap_no : heapy io = false → top il (add D j) il.length = top il D il.length := by
    intro hh
    refine top_congr il.length fun i oi _ h2 h3 => ?_
    unfold add
    rw [if_neg]
    rintro rfl
    rw [hio] at h2; cases h2
    rw [hh] at h3; cases h3
  -- now the step
  have hstep := hS j io hio
  unfold wpOp
  rw [ho]
  simp only
  simp only [trOper] at hto
  split at hto
  · rename_i op g hop hgd
    cases hto
    obtain ⟨b, hw1, hw2⟩ := wants_sound hrel (ops := ops) hgd
    simp only at hwant hw1
    rw [hw2]
    rw [hw1] at hwant
    cases b with
    | false =>
      simp only [Bool.false_eq_true, if_false]
      have hsh : (S (j + 1)).2 = (S j).2 := same_heap hS hio (.inr hwant.symm)
      have hfr : (S (j + 1)).1 = putT (S j).1 o.dst undefV := by
        unfold iop at hstep
        simp only at hstep
        rw [← hwant] at hstep
        exact (congrArg Prod.fst (Option.some.inj hstep)).symm
      refine hK _ _ (finish undefV undef e w hfr (Le.refl _) (R_undef e) ?_ ?_)
      · cases hh : heapy ({ dst := o.dst, op := op, guard := g } : IOp) with
        | false => rw [heap_no hh]; exact hsim
        | true => rw [(heap_at hh).2, hsh, ← (heap_at hh).1]; exact hsim
      · cases hh : heapy ({ dst := o.dst, op := op, guard := g } : IOp) with
        | false => rw [heap_no hh]; exact hst
        | true => rw [(heap_at hh).2, hsh, ← (heap_at hh).1]; exact hst
    | true =>
      simp only [if_true]
      unfold iop at hstep
      simp only at hstep
      rw [← hwant] at hstep
      simp only at hstep
      split at hstep
      · rename_i v h' hv
        have hfr : (S (j + 1)).1 = putT (S j).1 o.dst v := (congrArg Prod.fst (Option.some.inj hstep)).symm
        have hhp : (S (j + 1)).2 = h' := (congrArg Prod.snd (Option.some.inj hstep)).symm
        rw [← op1_congr hopr] at hv
        have hglob : Glob e gs := hg0.mono hst.le
        refine .inl ?_
        cases hh : heapy ({ dst := o.dst, op := op, guard := g } : IOp) with
        | true =>
          obtain ⟨g1, g2⟩ := heap_at hh
          rw [← g1] at hv
          have hnx1 : (S (j + 1)).2.nx ≤ (S il.length).2.nx := by
            have := steps_nx hN hS (il.length - (j + 1)) (j + 1) (by omega)
            rwa [show j + 1 + (il.length - (j + 1)) = il.length by omega] at this
          have hfr' : Fresh e (S (top il D il.length)).2.nx h'.nx := (hf0.next hst).sub (Nat.le_refl _) (by rw [← hhp]; exact hnx1)
          refine op_sound hglob hrel hop hC hv hsim hfr' fun v' w' ⟨e', q1, q2, q3⟩ => hK _ _ (finish v v' e' w' hfr q3.le q1 ?_ ?_)
          · rw [g2, hhp]; exact q2
          · rw [g2, hhp]; exact hst.trans q3
        | false =>
          -- the heap is as far as it is: the same value
          have hv2 : op1 C T' (S (top il D il.length)).2 op = some (v, (S (top il D il.length)).2) := by
            cases op with
            | al x => simp [heapy] at hh
            | ef x => simp [heapy] at hh
            | pu x =>
              simp only [op1] at hv ⊢
              split at hv
              · rename_i u hu; cases hv; rfl
              · cases hv
            | ld agg n x =>
              simp only [op1] at hv ⊢
              split at hv
              · rename_i u hu
                cases hv
                have : load1 T' (S (top il D il.length)).2 agg n x = load1 T' (S j).2 agg n x := by
                  -- the cell's place
                  have haddr : ∃ id off pl, opd T' x = .p (some (id, off)) ∧ e id = some pl := by
                    unfold load1 at hu
                    split at hu
                    · rename_i id off hx
                      unfold trOp1 at hop
                      split at hop
                      · split at hop
                        · obtain ⟨y, h1, h2⟩ := o1_inv hop
                          cases h2
                          have := trO_R hglob hrel h1
                          rw [hx] at this; simp only [R] at this
                          obtain ⟨pl, hpl, _⟩ := this
                          exact ⟨id, off, pl, hx, hpl⟩
                        · cases hop
                      · split at hop
                        · cases hop
                        · split at hop
                          · cases hop
                          · split at hop <;> cases hop
                    · cases hu
                  obtain ⟨id, off, pl, hadd, hpl⟩ := haddr
                  have hsome : ∃ c, (S j).2.load id off (if agg then n else 1) = some c := by
                    unfold load1 at hu
                    rw [hadd] at hu
                    simp only at hu
                    cases agg with
                    | true =>
                      simp only [if_true] at hu ⊢
                      split at hu
                      · rename_i c hc; exact ⟨c, hc⟩
                      · cases hu
                    | false =>
                      simp only [Bool.false_eq_true, if_false] at hu ⊢
                      split at hu
                      · rename_i c hc; exact ⟨_, hc⟩
                      · cases hu
                  have hidj : id < (S j).2.nx := by
                    obtain ⟨c, hc⟩ := hsome
                    obtain ⟨o', ho', _⟩ := load_inv hc
                    refine Nat.lt_of_not_le fun hge => ?_
                    rw [steps_wf hN hS hwf j (by omega) id hge] at ho'; cases ho'
                  have hidt : id < (S (top il D il.length)).2.nx := by
                    refine Nat.lt_of_not_le fun hge => ?_
                    have htn := steps_nx hN hS (il.length - top il D il.length) (top il D il.length) (by have := top_le (il := il) (D := D) il.length; omega)
                    have h0t := steps_nx hN hS (top il D il.length) 0 (by have := top_le (il := il) (D := D) il.length; omega)
                    rw [Nat.zero_add] at h0t
                    have hjn := steps_nx hN hS (il.length - j) j (by omega)
                    rw [show j + (il.length - j) = il.length by omega] at hjn
                    have h0 : e0 id = none := hf0 id (by omega) (by omega)
                    have := hst.dom id h0 (by rw [hpl]; simp)
                    omega
                  have hop' : opd (S j).1 x = .p (some (id, off)) := by rw [← opd_congr hopr]; exact hadd
                  have one : ∀ (k : Nat) (ok : IOp), il[k]? = some ok → heapy ok = true → k ≠ j → (k < j → D k = false) → (j < k → D k = true) → id < (S k).2.nx → (S k).2.load id off (if agg then n else 1) = (S (k + 1)).2.load id off (if agg then n else 1) := by
                    intro k ok hok' hhk hkj hb1 hb2 hidk
                    have hstepk := hS k ok hok'
                    obtain ⟨p1, p2⟩ := pairs_of k ok hkj hok'
                    cases hopk : ok.op with
                    | pu y => simp [heapy, hopk] at hhk
                    | ld _ _ y => simp [heapy, hopk] at hhk
                    | al y =>
                      unfold iop at hstepk
                      split at hstepk
                      · split at hstepk
                        · rename_i v1 h1 hv1
                          have e1 := congrArg Prod.snd (Option.some.inj hstepk)
                          simp only at e1
                          rw [← e1]
                          rw [hopk] at hv1
                          simp only [op1] at hv1
                          exact (alloc_load hv1 hidk).symm
                        · cases hstepk
                      · have e1 := congrArg Prod.snd (Option.some.inj hstepk)
                        simp only at e1
                        rw [← e1]
                      · cases hstepk
                    | ef y =>
                      have hin : (j, k) ∈ pairs := by
                        by_cases hlt : k < j
                        · have := p1 hlt
                          unfold pairOK at this
                          rw [hok', hio] at this
                          simp only [Bool.or_eq_true, Bool.and_eq_true, Bool.not_eq_true'] at this
                          rcases this with hb | ⟨_, h4⟩
                          · rw [hbefore k hb] at hb1; exact absurd (hb1 hlt) (by simp)
                          · rcases h4 with h4 | h4
                            · simp [isEff, isLd, hopk] at h4
                            · simpa using h4
                        · have hlt : j < k := by omega
                          have := p2 hlt
                          unfold pairOK at this
                          rw [hok', hio] at this
                          simp only [Bool.or_eq_true, Bool.and_eq_true, Bool.not_eq_true'] at this
                          rcases this with hb | ⟨⟨_, h3⟩, _⟩
                          · exact (hafter k (hb2 hlt) hb).elim
                          · rcases h3 with h3 | h3
                            · simp [isEff, isLd, hopk] at h3
                            · simpa using h3
                      rcases hsteady j k _ ok hin hio hok' agg n x rfl hwant.symm id off hop' with h1 | ⟨c, h1, h2⟩
                      · omega
                      · rw [h1, h2]
                  have hchain : (S (top il D il.length)).2.load id off (if agg then n else 1) = (S j).2.load id off (if agg then n else 1) := by
                    by_cases hle : top il D il.length ≤ j
                    · have := through hS (id := id) (off := off) (n := if agg then n else 1) (j - top il D il.length) (top il D il.length) (by omega) (fun k ok h1 h2 h3 h4 => by
                        have hnx := steps_nx hN hS (k - top il D il.length) (top il D il.length) (by omega)
                        rw [show top il D il.length + (k - top il D il.length) = k by omega] at hnx
                        refine one k ok h3 h4 (by omega) (fun _ => ?_) (fun h => by omega) (by omega)
                        cases hDk : D k with
                        | false => rfl
                        | true => exact (top_after il.length k h1 (by omega) ⟨hDk, by rw [h3]; simp [h4]⟩).elim)
                      rw [show top il D il.length + (j - top il D il.length) = j by omega] at this
                      exact this
                    · have htl := top_le (il := il) (D := D) il.length
                      obtain ⟨t1, t2⟩ := top_is (il := il) (D := D) il.length (by omega)
                      have := through hS (id := id) (off := off) (n := if agg then n else 1) (top il D il.length - j) j (by omega) (fun k ok h1 h2 h3 h4 => by
                        have hnx := steps_nx hN hS (k - j) j (by omega)
                        rw [show j + (k - j) = k by omega] at hnx
                        have hkj : k ≠ j := by
                          rintro rfl
                          rw [hio] at h3; cases h3
                          rw [hh] at h4; cases h4
                        refine one k ok h3 h4 hkj (fun h => by omega) (fun _ => ?_) (by omega)
                        by_cases hkt : k = top il D il.length - 1
                        · rw [hkt]; exact t1
                        · cases hot : il[top il D il.length - 1]? with
                          | none => rw [hot] at t2; cases t2
                          | some ot =>
                            rw [hot] at t2; simp only [Option.map_some, Option.some.injEq] at t2
                            have hp := hpair k (top il D il.length - 1) (by omega) (by omega)
                            unfold pairOK at hp
                            rw [h3, hot] at hp
                            simp only [Bool.or_eq_true, Bool.and_eq_true, Bool.not_eq_true'] at hp
                            rcases hp with hb | ⟨⟨⟨_, hp2⟩, _⟩, _⟩
                            · have hot2 : ops[top il D il.length - 1]? = some ops[top il D il.length - 1] := Array.getElem?_eq_getElem (by omega)
                              exact closed_bef hcl _ _ hot2 (hcl _ _ hot2 t1) k hb
                            · rw [h4, t2] at hp2; cases hp2)
                      rw [show j + (top il D il.length - j) = top il D il.length by omega] at this
                      exact this.symm
                  unfold load1
                  rw [hadd]
                  simp only
                  cases agg with
                  | true =>
                    simp only [if_true] at hchain ⊢
                    rw [hchain]
                  | false =>
                    simp only [Bool.false_eq_true, if_false] at hchain ⊢
                    rw [hchain]
                rw [this, hu]
              · cases hv
          refine op_sound hglob hrel hop hC hv2 hsim (fun id h1 h2 => by omega) fun v' w' ⟨e', q1, q2, q3⟩ => hK _ _ (finish v v' e' w' hfr q3.le q1 ?_ ?_)
          · rw [heap_no hh]; exact q2
          · rw [heap_no hh]; exact hst.trans q3
      · cases hstep
  · cases hto
end
end Mx
