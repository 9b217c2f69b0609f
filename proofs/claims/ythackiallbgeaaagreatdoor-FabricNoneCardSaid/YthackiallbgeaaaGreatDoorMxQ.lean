import Derived.Test.YthackiallbgeaaaGreatDoorMxP
namespace Mx
open Go Go.WideShapes Go.ChangeShapes Go.RowKit Go.WideElems
section
variable {H' : Type} {enc : TypeId × Value → H'} {P : Program}
theorem trodAll_keep (hl : laidOutB P = true) {W W' : World} (hb : Below W.heap.size W W') : ∀ {ts : List TypeId} {vs : List Value} {ds : List (DataW H')} {ps : List MemPlace},
    ts.all (fun t => P.readableRec t && decide (t < P.types.size)) = true → DataW.TrodAll enc P W 0 (fun _ => true) true ts vs ds ps → (∀ p ∈ ps, p.block < W.heap.size) →
    DataW.TrodAll enc P W' 0 (fun b => decide (b < W.heap.size)) true ts vs ds ps
  | [], vs, ds, ps, _, h, _ => by
    obtain ⟨rfl, rfl, rfl⟩ := trodAll_nil h
    exact trodAll_mk0
  | t :: ts, vs, ds, ps, hr, h, hlt => by
    obtain ⟨v, vs', d, ds', p, q, rfl, rfl, rfl, h1, h2⟩ := trodAll_cons h
    simp only [List.all_cons, Bool.and_eq_true, decide_eq_true_eq] at hr
    have k1 := Trod_stays hl hr.1.1 hr.1.2 h1 (W' := W') (sp' := fun b => decide (b < W.heap.size)) (fun x hx => hb.same (hlt x (List.mem_append_left _ hx))) (fun x hx => by simpa using hlt x (List.mem_append_left _ hx))
    have k2 := trodAll_keep hl hb (by simpa using hr.2) h2 (fun x hx => hlt x (List.mem_append_right _ hx))
    exact ⟨p, q, k1, k2, rfl⟩
end
end Mx
