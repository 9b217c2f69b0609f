import Derived.Test.YthackiallbgeaaaGreatDoorMxQ
import Derived.LaidLaws
import Derived.FnData
import Derived.MakeChecks
namespace Mx
open Go Go.WideShapes Go.ChangeShapes Go.RowKit Go.WideElems
mutual
def flatD {H' : Type} : DataW H' → Option (List V)
  | .lit (.bool b) => some [.b b]
  | .lit (.int k n) => some [.i k n]
  | .lit (.string l) => some [.s ⟨l.toArray⟩]
  | .agg l => flatDs l
  | _ => none
def flatDs {H' : Type} : List (DataW H') → Option (List V)
  | [] => some []
  | d :: l => match flatD d, flatDs l with
    | some x, some y => some (x ++ y)
    | _, _ => none
end
section
variable {H' : Type} {enc : TypeId × Value → H'} {P : Program} {w : World} {base : Nat} {spare : Nat → Bool} {held : Bool} {e : En}
theorem flat_fs {g : TypeId → Option (List KK)} {n : Nat} (ih : ∀ (t : TypeId) (ks : List KK), g t = some ks → ∀ (cs : List Value) (x : DataW H' × List MemPlace), DataW.trod enc P w base spare held n t cs = some x → ∃ xs, flatD x.1 = some xs ∧ xs.length = ks.length ∧ RL e xs cs) (cs : List Value) :
    ∀ (fs : List Field) (o : Nat) (ks : List KK) (dl : List (DataW H' × List MemPlace)), kkFs P g fs o = some ks → dl.length = fs.length → (∀ (i : Nat) (f : Field), fs[i]? = some f → DataW.trod enc P w base spare held n f.type ((cs.drop f.offset).take (P.cellsOf f.type)) = dl[i]?) →
    ∃ xs, flatDs (dl.map (·.1)) = some xs ∧ xs.length = ks.length ∧ (o + ks.length ≤ cs.length → RL e xs ((cs.drop o).take ks.length))
  | [], o, ks, dl, hk, hl, _ => by
    simp only [kkFs] at hk; cases hk
    cases dl with
    | nil => exact ⟨[], rfl, rfl, fun _ => by simp; exact RL_nil⟩
    | cons d l => simp at hl
  | f :: fs, o, ks, dl, hk, hl, hf => by
    simp only [kkFs] at hk
    split at hk
    · cases hk
    rename_i ho
    have ho : f.offset = o := Decidable.byContradiction ho
    split at hk
    · rename_i k1 k hk1 hz
      split at hk
      · rename_i hlen
        split at hk
        · rename_i r hr
          cases hk
          cases dl with
          | nil => simp at hl
          | cons y dl =>
            have hy := hf 0 f rfl
            simp only [List.getElem?_cons_zero] at hy
            rw [ho, cellsOf_sz hz] at hy
            obtain ⟨xs1, h0, h1, h2⟩ := ih f.type k1 hk1 _ _ hy
            obtain ⟨xs2, h3, h4, h5⟩ := flat_fs ih cs fs (o + k) r dl hr (by simpa using hl) fun i f' hf' => by
              have := hf (i + 1) f' (by simpa using hf')
              simpa using this
            refine ⟨xs1 ++ xs2, ?_, by simp [h1, h4], fun hb => ?_⟩
            · simp only [List.map_cons, flatDs, h0, h3]
            · rw [List.length_append, hlen] at hb ⊢
              have := h2.append (h5 (by omega))
              have e1 : (cs.drop o).take k ++ (cs.drop (o + k)).take r.length = (cs.drop o).take (k + r.length) := by
                rw [List.take_add, List.drop_drop]
              rw [e1] at this
              exact this
        · cases hk
      · cases hk
    · cases hk
def kkP (P : Program) : Nat → TypeId → Option (List KK)
  | 0, _ => none
  | d + 1, t => match P.underlying t with
    | some .bool => if szOf P t = some 1 then some [.b] else none
    | some (.int k) => if szOf P t = some 1 then some [.i k] else none
    | some .string => if szOf P t = some 1 then some [.s] else none
    | some (.struct fs) => match kkFs P (kkP P d) fs.toList 0 with
      | some ks => if szOf P t = some ks.length then some ks else none
      | none => none
    | _ => none
theorem flat_plain : ∀ (d : Nat) (t : TypeId) (ks : List KK), kkP P d t = some ks → ∀ (fuel : Nat) (cs : List Value) (x : DataW H' × List MemPlace), DataW.trod enc P w base spare held fuel t cs = some x →
    ∃ xs, flatD x.1 = some xs ∧ xs.length = ks.length ∧ RL e xs cs
  | 0, t, ks, hk, _, _, _, _ => by simp only [kkP] at hk; cases hk
  | d + 1, t, ks, hk, fuel, cs, x, hx => by
    simp only [kkP] at hk
    split at hk
    · rename_i hd
      split at hk
      · cases hk
        obtain ⟨b, rfl, rfl⟩ := DataW.trod_bool hd hx
        exact ⟨[.b b], rfl, rfl, RL_cons (by simp only [R]) RL_nil⟩
      · cases hk
    · rename_i k hd
      split at hk
      · cases hk
        obtain ⟨n, rfl, rfl, hw⟩ := DataW.trod_int hd hx
        exact ⟨[.i k n], rfl, rfl, RL_cons (by simp only [R]) RL_nil⟩
      · cases hk
    · rename_i hd
      split at hk
      · cases hk
        obtain ⟨s, rfl, rfl, hw⟩ := DataW.trod_string hd hx
        refine ⟨[.s s], ?_, rfl, RL_cons (by simp only [R]) RL_nil⟩
        simp [flatD]
      · cases hk
    · rename_i fs hd
      split at hk
      · rename_i ks' hks
        split at hk
        · rename_i hz
          cases hk
          obtain ⟨xs, n, _, rfl, hlen, hxl, hf⟩ := DataW.trod_struct hd hx
          obtain ⟨ys, h0, h1, h2⟩ := flat_fs (P := P) (w := w) (enc := enc) (base := base) (spare := spare) (held := held) (e := e) (n := n) (g := kkP P d)
            (fun t ks hk cs x hx => flat_plain d t ks hk n cs x hx) cs fs.toList 0 ks xs hks (by simpa using hxl) (fun i f hi => hf i f (by simpa using hi))
          rw [cellsOf_sz hz] at hlen
          refine ⟨ys, ?_, h1, ?_⟩
          · simp only [flatD]; exact h0
          · have := h2 (by omega)
            rw [List.drop_zero, List.take_of_length_le (by omega)] at this
            exact this
        · cases hk
      · cases hk
    · cases hk
end
def laidRows (P : Program) : List (String × DataW Unit) → Option (List (Nat × List V))
  | [] => some []
  | x :: l => match P.globalNamed x.1, laidRows P l, flatD x.2 with
    | some g, some r, some c => match (P.globals[g]?).map (·.type) with
      | some t => if (kkP P 20 t).isSome then some ((g, c) :: r) else none
      | none => none
    | _, _, _ => none
def Laid (w : World) (l : List (Nat × List V)) : Prop := ∀ x ∈ l, ∃ (C : Array Value) (t : TypeId) (fz : Nat × Nat), w.heap[x.1]? = some (.cells C t fz) ∧ ∀ e : En, RL e x.2 C.toList
theorem var_heap {P : Program} {w : World} {n : String} {g : Nat} {cs : Array Value} (hg : P.globalNamed n = some g) (h : w.var? P n = some cs) : ∃ t fz, w.heap[g]? = some (.cells cs t fz) := by
  simp only [World.var?, hg, Option.bind_some] at h
  split at h <;> simp_all
theorem laid_of {P : Program} {w : World} : ∀ {l : List (String × DataW Unit)} {ps : List MemPlace} {rs : List (Nat × List V)}, DataW.LaidVars P w l ps → laidRows P l = some rs → Laid w rs
  | [], _, rs, _, h => by
    simp only [laidRows] at h; cases h
    intro x hx; cases hx
  | (n, d) :: l, ps, rs, hv, h => by
    obtain ⟨g, t, cs, fuel, p, q, hg, ht, hc, hd, hr, _⟩ := hv
    simp only [laidRows, hg] at h
    split at h
    · rename_i g' r c h1 h2 h3
      cases h1
      rw [ht] at h
      simp only at h
      split at h
      · rename_i hk
        cases h
        intro x hx
        rw [List.mem_cons] at hx
        rcases hx with rfl | hx
        · obtain ⟨t', fz, hh⟩ := var_heap hg hc
          refine ⟨cs, t', fz, hh, fun e => ?_⟩
          obtain ⟨ks, hks⟩ := Option.isSome_iff_exists.1 hk
          obtain ⟨xs, e1, _, e3⟩ := flat_plain (e := e) 20 t ks hks fuel cs.toList _ hd
          rw [h3] at e1
          cases e1
          exact e3
        · exact laid_of hr h2 x hx
      · cases h
    · cases h
def rowsH (gs : Nat) : List (Nat × List V) → H
  | [] => ⟨gs, .l⟩
  | x :: l => (rowsH gs l).put x.1 (some ⟨true, x.2⟩)
def e0 (gs : Nat) : En := fun id => if id < gs then some ⟨id, 0, 0⟩ else none
theorem rowsH_nx (gs : Nat) : ∀ l, (rowsH gs l).nx = gs
  | [] => rfl
  | x :: l => by rw [rowsH, H.nx_put, rowsH_nx gs l]
theorem rowsH_get {gs : Nat} {id : Nat} {o : O} : ∀ {l : List (Nat × List V)}, (rowsH gs l).get id = some o → o.ro = true ∧ (id, o.c) ∈ l
  | [], h => by simp [rowsH, H.get, Tr.get] at h
  | x :: l, h => by
    rw [rowsH, H.get_put] at h
    by_cases hi : id = x.1
    · rw [if_pos hi] at h
      cases h
      exact ⟨rfl, by rw [hi]; exact List.mem_cons_self⟩
    · rw [if_neg hi] at h
      obtain ⟨h1, h2⟩ := rowsH_get h
      exact ⟨h1, List.mem_cons_of_mem _ h2⟩
theorem Given.rows {w : World} {gs : Nat} {l : List (Nat × List V)} (hl : Laid w l) (hg : l.all (fun x => decide (x.1 < gs)) = true) : Given (e0 gs) (rowsH gs l) w := by
  rw [List.all_eq_true] at hg
  refine ⟨⟨fun id o pl h hp => ?_, fun i j oi oj pi pj _ hi hro => ?_, fun id hid => ?_⟩, fun id o h => (rowsH_get h).1, fun id hid => ?_⟩
  · obtain ⟨h1, h2⟩ := rowsH_get h
    obtain ⟨C, t, fz, h3, h4⟩ := hl _ h2
    unfold e0 at hp
    split at hp
    · cases hp
      have h5 := h4 (e0 gs)
      have h6 := h5.length
      simp only [Array.length_toList] at h6
      refine ⟨C, t, fz, h3, fun h => (by rw [h1] at h; cases h), by simp only; omega, ?_⟩
      rw [List.drop_zero, List.take_of_length_le (by rw [Array.length_toList]; omega)]
      exact h5
    · cases hp
  · rw [(rowsH_get hi).1] at hro; cases hro
  · cases h : (rowsH gs l).get id with
    | none => rfl
    | some o =>
      have := hg _ (rowsH_get h).2
      simp only [decide_eq_true_eq] at this
      rw [rowsH_nx] at hid
      omega
  · rw [rowsH_nx] at hid
    unfold e0
    rw [if_neg (by omega)]
section
variable {H' : Type} {enc : TypeId × Value → H'} {P : Program} {w : World}
theorem law_calls_g {IP : Nat → Option IFn} {gs : Nat} {l : List (Nat × List V)} (hP : ProgOK P gs IP) (hl : Laid w l) (hg : l.all (fun x => decide (x.1 < gs)) = true) {f : Nat} {aks : List AK} {ts : List TypeId} (hak : aksOf P ts = some aks) (hpure : ∀ vs h, ArgsOK aks (rowsH gs l) vs h → ∃ k h', ev IP k f vs h = some (.b true, h'))
    {args : Array Value} {ds : List (DataW H')} {ps : List MemPlace} (ht : DataW.TrodAll enc P w 0 (fun _ => true) true ts args.toList ds ps) (hok : ∀ (j : Nat) (t : TypeId) (v : Value), ts[j]? = some t → args.toList[j]? = some v → ∃ r b, Value.okWide P w r b t v) :
    Calls P f args w fun en w' => en = .returned (.bool true) ∧ Go.RowKit.Below w.heap.size w w' := by
  obtain ⟨us, e, h, k1, k2, k3, k4⟩ := args_read aks ts hak args.toList ds ps ht hok _ _ (Given.rows hl hg)
  obtain ⟨k, h', hev⟩ := hpure us h k1
  have hfresh : Fresh e h.nx h'.nx := fun id h1 _ => k3.none id h1
  have hglob : Glob e gs := fun g hg => ⟨0, k4 _ _ (by unfold e0; rw [if_pos hg])⟩
  refine ((ev_sound hP k f us h _ _ hev).2 e w args k2 k3.sim hglob hfresh).mono ?_
  rintro en w' ⟨v', rfl, e', r1, _, st⟩
  simp only [R] at r1
  subst r1
  refine ⟨rfl, st.os, st.tape, st.output, st.size, fun b hb => st.keep b hb ?_⟩
  rintro ⟨id, o, pl, h1, h2, _⟩
  rw [k3.ro id o h1] at h2; cases h2
theorem law_contract_g {IP : Nat → Option IFn} {gs : Nat} {l : List (Nat × List V)} {laid : List (String × DataW Unit)} (hP : ProgOK P gs IP) (hn : (laid.all fun x => x.2.handleName?.isNone) = true) (hrows : laidRows P laid = some l) (hg : l.all (fun x => decide (x.1 < gs)) = true)
    {f : Nat} {fn : Func} {s : ChangeSpec} {aks : List AK} {tb : TypeId} (hvars : s.vars = []) (hak : aksOf P fn.params.toList = some aks)
    (hl : laidOutB P = true) (hr : fn.params.toList.all (fun t => P.readableRec t && decide (t < P.types.size)) = true) (hrt : fn.resultTypes = #[tb]) (htb : P.underlying tb = some .bool)
    (hfn : ∀ ds : List (DataW H'), ds.length = fn.params.toList.length → s.fn H' ds = { results := [.lit (.bool true)], args := ds })
    (hpure : ∀ vs h, ArgsOK aks (rowsH gs l) vs h → ∃ k h', ev IP k f vs h = some (.b true, h'))
    (W : World) (base : Nat) (args : Array Value) (ds gs' : List (DataW H')) (before : List MemPlace) (hL : laidMetH P laid W)
    (hval : ∀ (j : Nat) t v, fn.params[j]? = some t → args[j]? = some v → Value.okWide P W .any base t v)
    (hW : DataW.Whole enc P fn.params.toList s.vars false W args.toList ds gs' before) :
    Calls P f args W fun e W' => ∃ v, e = .returned v ∧ s.post enc P fn false true false false W args v W' := by
  rw [MakeChecks.laidMetH_plain _ _ _ hn] at hL
  obtain ⟨lps, hlv, _, _⟩ := hL
  have hlaid := laid_of hlv hrows
  have hW' := hW
  rw [hvars] at hW
  obtain ⟨p, q, hA, hV, rfl, _, _⟩ := hW
  obtain ⟨rfl, rfl⟩ := trodVars_none hV
  refine (law_calls_g hP hlaid hg hak hpure hA (fun j t v hj hv => ⟨_, _, hval j t v (by simpa using hj) (by simpa using hv)⟩)).mono ?_
  rintro e W1 ⟨rfl, bel⟩
  have hlen : ds.length = fn.params.toList.length := by
    have : ∀ {ts : List TypeId} {vs : List Value} {ds : List (DataW H')} {ps : List MemPlace}, DataW.TrodAll enc P W 0 (fun _ => true) true ts vs ds ps → ds.length = ts.length := by
      intro ts
      induction ts with
      | nil => intro vs ds ps h; obtain ⟨_, rfl, _⟩ := trodAll_nil h; rfl
      | cons t ts ih => intro vs ds ps h; obtain ⟨v, vs', d, ds', p, q, _, rfl, _, _, h2⟩ := trodAll_cons h; simp [ih h2]
    exact this hA
  have hfd := hfn ds hlen
  refine ⟨_, rfl, ds, [], p ++ [], [], p ++ [], [], hW', ?_, ?_, ?_, bel.frame _, fun h => by cases h⟩
  · simp only [List.append_nil]
    rw [hfd, hrt]
    exact trodAll_mk1 (shut_bool htb _)
  · simp only [List.append_nil]
    rw [hfd]
    refine trodAll_keep hl bel hr hA (fun x hx => hW'.lt x (by simpa using hx))
  · simp only [List.append_nil]
    rw [hfd, hvars]
    rfl
end
end Mx
