/-
  The last step of a row: what the abstract machine finds true at every input is the row's contract.
-/
import Derived.Test.YtonhcimkodgijaaMxP
namespace Mx
open Go Go.WideShapes Go.ChangeShapes Go.RowKit Go.WideElems

section
variable {H' : Type} {enc : TypeId × Value → H'} {P : Program}

theorem trodAll_keep (hl : laidOutB P = true) {W W' : World} (hb : Below W.heap.size W W') : ∀ {ts : List TypeId} {vs : List Value} {ds : List (DataW H')} {ps : List MemPlace},
    ts.all (fun t => P.readableRec t && decide (t < P.types.size)) = true → DataW.TrodAll enc P W 0 (fun _ => true) true ts vs ds ps → (∀ p ∈ ps, p.block < W.heap.size) →
    DataW.TrodAll enc P W' 0 (fun b => decide (b < W.heap.size)) true ts vs ds ps
  | [], vs, ds, ps, _, h, _ => by
    obtain ⟨rfl, rfl, rfl⟩ := trodAll_nil h
    exact trodAll_mk0
  | t :: ts, vs, ds, ps, hr, h, hlt => by
    obtain ⟨v, vs', d, ds', p, q, rfl, rfl, rfl, h1, h2⟩ := trodAll_cons h
    simp only [List.all_cons, Bool.and_eq_true, decide_eq_true_eq] at hr
    have k1 := Trod_stays hl hr.1.1 hr.1.2 h1 (W' := W') (sp' := fun b => decide (b < W.heap.size)) (fun x hx => hb.same (hlt x (List.mem_append_left _ hx))) (fun x hx => by simpa using hlt x (List.mem_append_left _ hx))
    have k2 := trodAll_keep hl hb (by simpa using hr.2) h2 (fun x hx => hlt x (List.mem_append_right _ hx))
    exact ⟨p, q, k1, k2, rfl⟩

theorem law_contract {IP : Nat → Option IFn} (hP : ProgOK P 0 IP) {f : Nat} {fn : Func} {s : ChangeSpec} {aks : List AK} {tb : TypeId} (hvars : s.vars = []) (hak : aksOf P fn.params.toList = some aks)
    (hl : laidOutB P = true) (hr : fn.params.toList.all (fun t => P.readableRec t && decide (t < P.types.size)) = true) (hrt : fn.resultTypes = #[tb]) (htb : P.underlying tb = some .bool)
    (hfn : ∀ ds : List (DataW H'), ds.length = fn.params.toList.length → s.fn H' ds = { results := [.lit (.bool true)], args := ds })
    (hpure : ∀ vs h, ArgsOK aks ⟨0, .l⟩ vs h → ∃ k h', ev IP k f vs h = some (.b true, h'))
    (W : World) (base : Nat) (args : Array Value) (ds gs : List (DataW H')) (before : List MemPlace)
    (hval : ∀ (j : Nat) t v, fn.params[j]? = some t → args[j]? = some v → Value.okWide P W .any base t v)
    (hW : DataW.Whole enc P fn.params.toList s.vars false W args.toList ds gs before) :
    Calls P f args W fun e W' => ∃ v, e = .returned v ∧ s.post enc P fn false true false false W args v W' := by
  have hW' := hW
  rw [hvars] at hW
  obtain ⟨p, q, hA, hV, rfl, _, _⟩ := hW
  obtain ⟨rfl, rfl⟩ := trodVars_none hV
  refine (law_calls hP hak hpure hA (fun j t v hj hv => ⟨_, _, hval j t v (by simpa using hj) (by simpa using hv)⟩)).mono ?_
  rintro e W1 ⟨rfl, bel⟩
  have hlen : ds.length = fn.params.toList.length := by
    have : ∀ {ts : List TypeId} {vs : List Value} {ds : List (DataW H')} {ps : List MemPlace}, DataW.TrodAll enc P W 0 (fun _ => true) true ts vs ds ps → ds.length = ts.length := by
      intro ts
      induction ts with
      | nil => intro vs ds ps h; obtain ⟨_, rfl, _⟩ := trodAll_nil h; rfl
      | cons t ts ih => intro vs ds ps h; obtain ⟨v, vs', d, ds', p, q, _, rfl, _, _, h2⟩ := trodAll_cons h; simp [ih h2]
    exact this hA
  have hfd := hfn ds hlen
  refine ⟨_, rfl, ds, [], p ++ [], [], p ++ [], [], hW', ?_, ?_, ?_, bel.frame _, fun h => by cases h⟩
  · simp only [List.append_nil]
    rw [hfd, hrt]
    exact trodAll_mk1 (shut_bool htb _)
  · simp only [List.append_nil]
    rw [hfd]
    refine trodAll_keep hl bel hr hA (fun x hx => hW'.lt x (by simpa using hx))
  · simp only [List.append_nil]
    rw [hfd, hvars]
    rfl
end
end Mx
