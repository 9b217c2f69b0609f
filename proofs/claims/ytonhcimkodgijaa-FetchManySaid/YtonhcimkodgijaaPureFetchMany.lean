/-
  The pure law of FetchMany: the abstract machine finds it true at every input.
-/
import Derived.Test.YtonhcimkodgijaaIrFetchMany
import Derived.Test.YtonhcimkodgijaaMxT
import Derived.KernelRfl
import Derived.Test.YtonhcimkodgijaaPureFetchManyP0
namespace Go.Proofs.Ytonhcimkodgijaa.PureFetchMany
open Go Mx Go.Proofs.Ytonhcimkodgijaa
set_option linter.unusedVariables false
set_option maxRecDepth 10000
set_option maxHeartbeats 8000000
set_option linter.unusedSimpArgs false
open IrFetchMany
/-- the loop's end -/
theorem iend {hs h : H} {owns own : Nat → Prop} {ra n : Nat} {f : Nat → Int} {ts : List Int} {st : Int} (a : Ar h ra n f ts st own) (fr : Fr hs owns h own) {rt : Nat} (hsl : hs.nx ≤ rt) {b p w0 w1 w2 t at_ : Int} {lone full : Bool}
    (T : Has h own rt ⟨false, tsk b p w0 w1 w2 t at_ lone full⟩) (hd : full = false ∧ at_ = 7 ∨ full = true) (k : Int) (hk : 0 ≤ k ∧ k < 40)
    {q : Hid (V → H → Prop)} {g : Hid (V → V → V → H → Prop)} (Qg : ∀ h', Ar h' ra n f ts st own → Fr hs owns h' own → q.un (.tup [.agg (tsk b p w0 w1 w2 t at_ lone full), .i .i64 k]) h') :
    @L59_2 (.p (some (ra, 0))) (.p (some (rt, 0))) (.i .i64 k) h q g := by
  have T0 := T.2.2
  have l0 := T.1
  have fr2 := fr.trans (fr_new h own a.lt ⟨false, tsk b p w0 w1 w2 t at_ lone full⟩)
  have a2 := a.new ⟨false, tsk b p w0 w1 w2 t at_ lone full⟩
  unfold tsk at *
  rcases hd with ⟨rfl, rfl⟩ | rfl <;>
  · simp (maxSteps := 2000000) (disch := omega) only [stp, ← decide_not, vEqz, eqz, vEqa, eqList, eqAtom, H.at, H.load, vBox, vNewSl, vBld, fill, Mx.part, vClear, vCopy, vBtos, source, lenV, V.isSl, Mx.room, slcut, cutOp, mkOp, bounds, natIn, H.kill, beq_self_eq_true, if_pos, if_neg, List.cons_append, List.nil_append, List.append_nil, List.length_cons, List.length_nil, List.length_set, List.take_succ_cons, List.take_zero, List.drop_succ_cons, List.drop_zero, List.take_nil, List.drop_nil, List.all_cons, List.all_nil, ite_self, if_true, if_false, ite_true, ite_false, reduceIte, reduceDIte, eq_self, ne_eq, gt_iff_lt, ge_iff_le, Option.map_some, Option.map_none, Nat.reduceAdd, Nat.reduceMul, Nat.reduceSub, Nat.reduceLT, Nat.reduceLeDiff, Nat.reduceEqDiff, Nat.reduceSucc, Int.reduceAdd, Int.reduceSub, Int.reduceMul, Int.reduceNeg, Int.reduceLT, Int.reduceLE, Int.reduceEq, Int.reduceNe, Int.reduceToNat, Int.reduceTMod, Int.reduceTDiv, Int.reduceFDiv, Int.reducePow, Nat.reduceMod, Nat.reduceAnd, Nat.reduceDiv, Nat.reducePow, L59_2, T0, f53, K53]
    exact Qg _ (a2.put T.2.1 _) (fr2.put hsl _)
theorem it {hs h : H} {owns own : Nat → Prop} {ra n : Nat} {f f' : Nat → Int} {ts : List Int} {st c : Int} (a : Ar h ra n f ts st own) (fr : Fr hs owns h own) {rt : Nat} (hsl : hs.nx ≤ rt) {b p w0 w1 w2 t at_ t' at' : Int} {lone full' : Bool}
    (T : Has h own rt ⟨false, tsk b p w0 w1 w2 t at_ lone false⟩) (hd : at_ ≠ 7) (D : Does ra n (tsk b p w0 w1 w2 t at_ lone false) (tsk b p w0 w1 w2 t' at' lone full') f f' c st) (k k' : Int) (hk : 0 ≤ k ∧ k < 40) (hk' : k + 1 = k')
    {q : Hid (V → H → Prop)} (Qg : ∀ h' own', Ar h' ra n f' [c] st own' → Fr hs owns h' own' → Has h' own' rt ⟨false, tsk b p w0 w1 w2 t' at' lone full'⟩ → @W59_2 (.p (some (ra, 0))) (.p (some (rt, 0))) (.i .i64 k') h' q) :
    @W59_2 (.p (some (ra, 0))) (.p (some (rt, 0))) (.i .i64 k) h q := by
  subst hk'
  rw [W59_2_eq]
  exact iter a fr hsl T hd D k hk Qg
theorem itend {hs h : H} {owns own : Nat → Prop} {ra n : Nat} {f : Nat → Int} {ts : List Int} {st : Int} (a : Ar h ra n f ts st own) (fr : Fr hs owns h own) {rt : Nat} (hsl : hs.nx ≤ rt) {b p w0 w1 w2 t at_ : Int} {lone full : Bool}
    (T : Has h own rt ⟨false, tsk b p w0 w1 w2 t at_ lone full⟩) (hd : full = false ∧ at_ = 7 ∨ full = true) (k : Int) (hk : 0 ≤ k ∧ k < 40)
    {Q : V → H → Prop} (Qg : ∀ h', Ar h' ra n f ts st own → Fr hs owns h' own → Q (.tup [.agg (tsk b p w0 w1 w2 t at_ lone full), .i .i64 k]) h') :
    @W59_2 (.p (some (ra, 0))) (.p (some (rt, 0))) (.i .i64 k) h ⟨Q⟩ := by
  rw [W59_2_eq]
  exact iend a fr hsl T hd k hk Qg
theorem run_start {h : H} {ra n : Nat} {f : Nat → Int} {ts : List Int} {st : Int} {own : Nat → Prop} (a : Ar h ra n f ts st own) {b p w0 w1 w2 t at_ : Int} {lone full : Bool} {Q : V → H → Prop}
    (q : ∀ h1, Ar h1 ra n f ts st own → Fr h own h1 own → Has h1 own (h.nx + 1) ⟨false, tsk b p w0 w1 w2 t at_ lone full⟩ → @W59_2 (.p (some (ra, 0))) (.p (some (h.nx + 1, 0))) (.i .i64 0) h1 ⟨Q⟩) :
    @wF IP 59 [.p (some (ra, 0)), .agg (tsk b p w0 w1 w2 t at_ lone full)] h ⟨Q⟩ := by
  have no : ¬ own (h.nx + 1) := fun ho => by have := a.lt _ ho; omega
  have q' := q _ (((a.new ⟨false, tsk b p w0 w1 w2 t at_ lone full⟩).new ⟨false, [.i .i64 0, .i .i64 0, .i .u64 0, .i .u64 0, .i .u64 0, .i .u64 0, .i .i64 0, .b false, .b false]⟩).put no (some ⟨false, tsk b p w0 w1 w2 t at_ lone full⟩))
    ((((ext_new h _).trans (ext_new _ _)).fr own).put (by omega) _) ⟨by simp (maxSteps := 2000000) (disch := omega) only [stp, ← decide_not, vEqz, eqz, vEqa, eqList, eqAtom, H.at, H.load, vBox, vNewSl, vBld, fill, Mx.part, vClear, vCopy, vBtos, source, lenV, V.isSl, Mx.room, slcut, cutOp, mkOp, bounds, natIn, H.kill, beq_self_eq_true, if_pos, if_neg, List.cons_append, List.nil_append, List.append_nil, List.length_cons, List.length_nil, List.length_set, List.take_succ_cons, List.take_zero, List.drop_succ_cons, List.drop_zero, List.take_nil, List.drop_nil, List.all_cons, List.all_nil, ite_self, if_true, if_false, ite_true, ite_false, reduceIte, reduceDIte, eq_self, ne_eq, gt_iff_lt, ge_iff_le, Option.map_some, Option.map_none, Nat.reduceAdd, Nat.reduceMul, Nat.reduceSub, Nat.reduceLT, Nat.reduceLeDiff, Nat.reduceEqDiff, Nat.reduceSucc, Int.reduceAdd, Int.reduceSub, Int.reduceMul, Int.reduceNeg, Int.reduceLT, Int.reduceLE, Int.reduceEq, Int.reduceNe, Int.reduceToNat, Int.reduceTMod, Int.reduceTDiv, Int.reduceFDiv, Int.reducePow, Nat.reduceMod, Nat.reduceAnd, Nat.reduceDiv, Nat.reducePow, ]; omega, no, by simp (maxSteps := 2000000) (disch := omega) only [stp, ← decide_not, vEqz, eqz, vEqa, eqList, eqAtom, H.at, H.load, vBox, vNewSl, vBld, fill, Mx.part, vClear, vCopy, vBtos, source, lenV, V.isSl, Mx.room, slcut, cutOp, mkOp, bounds, natIn, H.kill, beq_self_eq_true, if_pos, if_neg, List.cons_append, List.nil_append, List.append_nil, List.length_cons, List.length_nil, List.length_set, List.take_succ_cons, List.take_zero, List.drop_succ_cons, List.drop_zero, List.take_nil, List.drop_nil, List.all_cons, List.all_nil, ite_self, if_true, if_false, ite_true, ite_false, reduceIte, reduceDIte, eq_self, ne_eq, gt_iff_lt, ge_iff_le, Option.map_some, Option.map_none, Nat.reduceAdd, Nat.reduceMul, Nat.reduceSub, Nat.reduceLT, Nat.reduceLeDiff, Nat.reduceEqDiff, Nat.reduceSucc, Int.reduceAdd, Int.reduceSub, Int.reduceMul, Int.reduceNeg, Int.reduceLT, Int.reduceLE, Int.reduceEq, Int.reduceNe, Int.reduceToNat, Int.reduceTMod, Int.reduceTDiv, Int.reduceFDiv, Int.reducePow, Nat.reduceMod, Nat.reduceAnd, Nat.reduceDiv, Nat.reducePow, ]⟩
  unfold tsk at *
  simp (maxSteps := 2000000) (disch := omega) only [stp, ← decide_not, vEqz, eqz, vEqa, eqList, eqAtom, H.at, H.load, vBox, vNewSl, vBld, fill, Mx.part, vClear, vCopy, vBtos, source, lenV, V.isSl, Mx.room, slcut, cutOp, mkOp, bounds, natIn, H.kill, beq_self_eq_true, if_pos, if_neg, List.cons_append, List.nil_append, List.append_nil, List.length_cons, List.length_nil, List.length_set, List.take_succ_cons, List.take_zero, List.drop_succ_cons, List.drop_zero, List.take_nil, List.drop_nil, List.all_cons, List.all_nil, ite_self, if_true, if_false, ite_true, ite_false, reduceIte, reduceDIte, eq_self, ne_eq, gt_iff_lt, ge_iff_le, Option.map_some, Option.map_none, Nat.reduceAdd, Nat.reduceMul, Nat.reduceSub, Nat.reduceLT, Nat.reduceLeDiff, Nat.reduceEqDiff, Nat.reduceSucc, Int.reduceAdd, Int.reduceSub, Int.reduceMul, Int.reduceNeg, Int.reduceLT, Int.reduceLE, Int.reduceEq, Int.reduceNe, Int.reduceToNat, Int.reduceTMod, Int.reduceTDiv, Int.reduceFDiv, Int.reducePow, Nat.reduceMod, Nat.reduceAnd, Nat.reduceDiv, Nat.reducePow, f59, K59_1, K59]
  exact q'
/-- what each step does -/
theorem do_tail {ra n : Nat} {f : Nat → Int} {st b p w0 w1 w2 t : Int} {lone : Bool} (hp : isP p) (hb : 0 ≤ b) (hc : b + 1 + 4 * p ≤ n) : Does ra n (tsk b p w0 w1 w2 t 0 lone false) (tsk b p w0 w1 w2 (f b.toNat) 1 lone false) f f b st :=
  fun h own Q a q => step_tail a hp hb hc q
theorem do_stand {ra n : Nat} {f : Nat → Int} {st b p w0 w1 w2 t : Int} {lone : Bool} (hp : isP p) (hb : 0 ≤ b) (hc : b + 1 + 4 * p ≤ n) (ht : 0 ≤ t ∧ t ≤ 18446744073709551615) : Does ra n (tsk b p w0 w1 w2 t 1 lone false) (tsk b p w0 w1 w2 t (stn t (f (pl b p t).toNat) lone).1 lone (stn t (f (pl b p t).toNat) lone).2) f f (pl b p t) st :=
  fun h own Q a q => step_stand a hp hb hc ht q
theorem do_claim {ra n : Nat} {f : Nat → Int} {st b p w0 w1 w2 t : Int} {lone : Bool} (hp : isP p) (hb : 0 ≤ b) (hc : b + 1 + 4 * p ≤ n) (ht : 0 ≤ t ∧ t < 18446744073709551615) : Does ra n (tsk b p w0 w1 w2 t 2 lone false) (tsk b p w0 w1 w2 t (if f b.toNat = t then 3 else 0) lone false) f (if f b.toNat = t then fset f b.toNat (t + 1) else f) b st :=
  fun h own Q a q => step_claim a hp hb hc ht q
theorem do_d0 {ra n : Nat} {f : Nat → Int} {st b p w0 w1 w2 t : Int} {lone : Bool} (hp : isP p) (hb : 0 ≤ b) (hc : b + 1 + 4 * p ≤ n) (ht : 0 ≤ t ∧ t ≤ 18446744073709551615) : Does ra n (tsk b p w0 w1 w2 t 3 lone false) (tsk b p w0 w1 w2 t 4 lone false) f (fset f (pl b p t + 1 + 0).toNat w0) (pl b p t + 1 + 0) st :=
  fun h own Q a q => step_d0 a hp hb hc ht q
theorem do_d1 {ra n : Nat} {f : Nat → Int} {st b p w0 w1 w2 t : Int} {lone : Bool} (hp : isP p) (hb : 0 ≤ b) (hc : b + 1 + 4 * p ≤ n) (ht : 0 ≤ t ∧ t ≤ 18446744073709551615) : Does ra n (tsk b p w0 w1 w2 t 4 lone false) (tsk b p w0 w1 w2 t 5 lone false) f (fset f (pl b p t + 1 + 1).toNat w1) (pl b p t + 1 + 1) st :=
  fun h own Q a q => step_d1 a hp hb hc ht q
theorem do_d2 {ra n : Nat} {f : Nat → Int} {st b p w0 w1 w2 t : Int} {lone : Bool} (hp : isP p) (hb : 0 ≤ b) (hc : b + 1 + 4 * p ≤ n) (ht : 0 ≤ t ∧ t ≤ 18446744073709551615) : Does ra n (tsk b p w0 w1 w2 t 5 lone false) (tsk b p w0 w1 w2 t 6 lone false) f (fset f (pl b p t + 1 + 2).toNat w2) (pl b p t + 1 + 2) st :=
  fun h own Q a q => step_d2 a hp hb hc ht q
theorem do_last {ra n : Nat} {f : Nat → Int} {st b p w0 w1 w2 t : Int} {lone : Bool} (hp : isP p) (hb : 0 ≤ b) (hc : b + 1 + 4 * p ≤ n) (ht : 0 ≤ t ∧ t < 18446744073709551615) : Does ra n (tsk b p w0 w1 w2 t 6 lone false) (tsk b p w0 w1 w2 t 7 lone false) f (fset f (pl b p t).toNat (t + 1)) (pl b p t) st :=
  fun h own Q a q => step_last a hp hb hc ht q
/-- the arena behind a sending: its words, and its turn -/
def sent (f : Nat → Int) (x t w0 w1 w2 : Int) : Nat → Int := fset (fset (fset (fset f (x + 1 + 0).toNat w0) (x + 1 + 1).toNat w1) (x + 1 + 2).toNat w2) x.toNat (t + 1)
theorem fin {hs h : H} {owns own : Nat → Prop} {ra n : Nat} {f : Nat → Int} {ts : List Int} {st : Int} (a : Ar h ra n f ts st own) (fr : Fr hs owns h own) {rt : Nat} (hsl : hs.nx ≤ rt) {b p w0 w1 w2 t : Int} {lone : Bool} (hp : isP p) (hb : 0 ≤ b) (hc : b + 1 + 4 * p ≤ n) (ht : 0 ≤ t ∧ t < 18446744073709551615)
    (T : Has h own rt ⟨false, tsk b p w0 w1 w2 t 3 lone false⟩) (k k' : Int) (hk : 0 ≤ k ∧ k < 30) (hk' : k + 4 = k')
    {Q : V → H → Prop} (q : ∀ h' own', Ar h' ra n (sent f (pl b p t) t w0 w1 w2) [pl b p t] st own' → Fr hs owns h' own' → Q (.tup [.agg (tsk b p w0 w1 w2 t 7 lone false), .i .i64 k']) h') :
    @W59_2 (.p (some (ra, 0))) (.p (some (rt, 0))) (.i .i64 k) h ⟨Q⟩ := by
  refine it a fr hsl T (by omega) (do_d0 hp hb hc (by omega)) k (k + 1) (by omega) rfl (fun h1 own1 a1 fr1 T1 => ?_)
  refine it a1 fr1 hsl T1 (by omega) (do_d1 hp hb hc (by omega)) (k + 1) (k + 2) (by omega) (by omega) (fun h2 own2 a2 fr2 T2 => ?_)
  refine it a2 fr2 hsl T2 (by omega) (do_d2 hp hb hc (by omega)) (k + 2) (k + 3) (by omega) (by omega) (fun h3 own3 a3 fr3 T3 => ?_)
  refine it a3 fr3 hsl T3 (by omega) (do_last hp hb hc ht) (k + 3) (k + 4) (by omega) (by omega) (fun h4 own4 a4 fr4 T4 => ?_)
  subst hk'
  exact itend a4 fr4 hsl T4 (.inl ⟨rfl, rfl⟩) (k + 4) (by omega) (fun h5 a5 fr5 => q h5 own4 a5 fr5)
/-- a sending alone, of who sends alone: there is room -/
theorem run_lone {h : H} {ra n : Nat} {f : Nat → Int} {ts : List Int} {st : Int} {own : Nat → Prop} (a : Ar h ra n f ts st own) {b p w0 w1 w2 t : Int} (hp : isP p) (hb : 0 ≤ b) (hc : b + 1 + 4 * p ≤ n) (ht : 0 ≤ t ∧ t < 18446744073709551615) (hf : f (pl b p t).toNat = t) {Q : V → H → Prop}
    (q : ∀ h' own', Ar h' ra n (sent f (pl b p t) t w0 w1 w2) [pl b p t] st own' → Fr h own h' own' → Q (.tup [.agg (tsk b p w0 w1 w2 t 7 true false), .i .i64 5]) h') :
    @wF IP 59 [.p (some (ra, 0)), .agg (tsk b p w0 w1 w2 t 1 true false)] h ⟨Q⟩ := by
  refine run_start a (fun h1 a1 fr1 T1 => ?_)
  have D := @do_stand ra n f st b p w0 w1 w2 t true hp hb hc (by omega)
  rw [hf, show stn t t true = (3, false) by simp [stn]] at D
  refine it a1 fr1 (by omega) T1 (by omega) D 0 1 (by omega) rfl (fun h2 own2 a2 fr2 T2 => ?_)
  exact fin a2 fr2 (by omega) hp hb hc ht T2 1 5 (by omega) rfl q
/-- there is no room -/
theorem run_lone_full {h : H} {ra n : Nat} {f : Nat → Int} {ts : List Int} {st : Int} {own : Nat → Prop} (a : Ar h ra n f ts st own) {b p w0 w1 w2 t : Int} (hp : isP p) (hb : 0 ≤ b) (hc : b + 1 + 4 * p ≤ n) (ht : 0 ≤ t ∧ t < 18446744073709551615) (hf : f (pl b p t).toNat ≠ t) {Q : V → H → Prop}
    (q : ∀ h' own', Ar h' ra n f [pl b p t] st own' → Fr h own h' own' → Q (.tup [.agg (tsk b p w0 w1 w2 t 1 true true), .i .i64 1]) h') :
    @wF IP 59 [.p (some (ra, 0)), .agg (tsk b p w0 w1 w2 t 1 true false)] h ⟨Q⟩ := by
  refine run_start a (fun h1 a1 fr1 T1 => ?_)
  have D := @do_stand ra n f st b p w0 w1 w2 t true hp hb hc (by omega)
  rw [show stn t (f (pl b p t).toNat) true = (1, true) by simp [stn, hf]] at D
  refine it a1 fr1 (by omega) T1 (by omega) D 0 1 (by omega) rfl (fun h2 own2 a2 fr2 T2 => ?_)
  exact itend a2 fr2 (by omega) T2 (.inr rfl) 1 (by omega) (fun h3 a3 fr3 => q h3 own2 a3 fr3)
/-- of many who send -/
theorem run_many {h : H} {ra n : Nat} {f : Nat → Int} {ts : List Int} {st : Int} {own : Nat → Prop} (a : Ar h ra n f ts st own) {b p w0 w1 w2 t : Int} (hp : isP p) (hb : 0 ≤ b) (hc : b + 1 + 4 * p ≤ n) (ht : 0 ≤ t ∧ t < 18446744073709551615) (h0 : f b.toNat = t) (hf : f (pl b p t).toNat = t) {Q : V → H → Prop}
    (q : ∀ h' own', Ar h' ra n (sent (fset f b.toNat (t + 1)) (pl b p t) t w0 w1 w2) [pl b p t] st own' → Fr h own h' own' → Q (.tup [.agg (tsk b p w0 w1 w2 t 7 false false), .i .i64 7]) h') :
    @wF IP 59 [.p (some (ra, 0)), .agg (tsk b p w0 w1 w2 0 0 false false)] h ⟨Q⟩ := by
  refine run_start a (fun h1 a1 fr1 T1 => ?_)
  have D0 := @do_tail ra n f st b p w0 w1 w2 0 false hp hb hc
  rw [h0] at D0
  refine it a1 fr1 (by omega) T1 (by omega) D0 0 1 (by omega) rfl (fun h2 own2 a2 fr2 T2 => ?_)
  have D := @do_stand ra n f st b p w0 w1 w2 t false hp hb hc (by omega)
  rw [hf, show stn t t false = (2, false) by simp [stn]] at D
  refine it a2 fr2 (by omega) T2 (by omega) D 1 2 (by omega) rfl (fun h3 own3 a3 fr3 T3 => ?_)
  have D2 := @do_claim ra n f st b p w0 w1 w2 t false hp hb hc ht
  rw [if_pos h0, if_pos h0] at D2
  refine it a3 fr3 (by omega) T3 (by omega) D2 2 3 (by omega) rfl (fun h4 own4 a4 fr4 T4 => ?_)
  exact fin a4 fr4 (by omega) hp hb hc ht T4 3 7 (by omega) rfl q
theorem run_many_full {h : H} {ra n : Nat} {f : Nat → Int} {ts : List Int} {st : Int} {own : Nat → Prop} (a : Ar h ra n f ts st own) {b p w0 w1 w2 t : Int} (hp : isP p) (hb : 0 ≤ b) (hc : b + 1 + 4 * p ≤ n) (ht : 0 ≤ t ∧ t < 18446744073709551615) (h0 : f b.toNat = t) (hf : f (pl b p t).toNat < t) {Q : V → H → Prop}
    (q : ∀ h' own', Ar h' ra n f [pl b p t] st own' → Fr h own h' own' → Q (.tup [.agg (tsk b p w0 w1 w2 t 1 false true), .i .i64 2]) h') :
    @wF IP 59 [.p (some (ra, 0)), .agg (tsk b p w0 w1 w2 0 0 false false)] h ⟨Q⟩ := by
  refine run_start a (fun h1 a1 fr1 T1 => ?_)
  have D0 := @do_tail ra n f st b p w0 w1 w2 0 false hp hb hc
  rw [h0] at D0
  refine it a1 fr1 (by omega) T1 (by omega) D0 0 1 (by omega) rfl (fun h2 own2 a2 fr2 T2 => ?_)
  have D := @do_stand ra n f st b p w0 w1 w2 t false hp hb hc (by omega)
  rw [show stn t (f (pl b p t).toNat) false = (1, true) by simp [stn, hf, Int.ne_of_lt hf]] at D
  refine it a2 fr2 (by omega) T2 (by omega) D 1 2 (by omega) rfl (fun h3 own3 a3 fr3 T3 => ?_)
  exact itend a3 fr3 (by omega) T3 (.inr rfl) 2 (by omega) (fun h4 a4 fr4 => q h4 own3 a4 fr4)
/-! ### a fetching -/
def fsk (b p t w0 w1 w2 at_ : Int) (empty : Bool) : List V := [.i .i64 b, .i .i64 p, .i .u64 t, .i .u64 w0, .i .u64 w1, .i .u64 w2, .i .i64 at_, .b empty]
/-- a step that looks whether its turn is there -/
theorem f_stand {h : H} {ra n : Nat} {f : Nat → Int} {ts : List Int} {st : Int} {own : Nat → Prop} (a : Ar h ra n f ts st own) {b p t w0 w1 w2 : Int} (hp : isP p) (hb : 0 ≤ b) (hc : b + 1 + 4 * p ≤ n) (ht : 0 ≤ t ∧ t < 18446744073709551615) {Q : V → H → Prop}
    (q : ∀ h' own', Ar h' ra n f (addT ts (pl b p t)) st own' → Fr h own h' own' → Q (.agg (if f (pl b p t).toNat = t + 1 then fsk b p t w0 w1 w2 1 false else fsk b p t w0 w1 w2 0 true)) h') : @wF IP 54 [.agg (fsk b p t w0 w1 w2 0 false), .p (some (ra, 0))] h ⟨Q⟩ := by
  have hm := hp.mod t ht.1
  have hpl : 0 ≤ pl b p t ∧ pl b p t < n := by unfold pl; have := hp.rng; omega
  have hs := a.sz
  have hr := hp.rng
  unfold fsk
  simp (maxSteps := 2000000) (disch := omega) only [stp, ← decide_not, vEqz, eqz, vEqa, eqList, eqAtom, H.at, H.load, vBox, vNewSl, vBld, fill, Mx.part, vClear, vCopy, vBtos, source, lenV, V.isSl, Mx.room, slcut, cutOp, mkOp, bounds, natIn, H.kill, beq_self_eq_true, if_pos, if_neg, List.cons_append, List.nil_append, List.append_nil, List.length_cons, List.length_nil, List.length_set, List.take_succ_cons, List.take_zero, List.drop_succ_cons, List.drop_zero, List.take_nil, List.drop_nil, List.all_cons, List.all_nil, ite_self, if_true, if_false, ite_true, ite_false, reduceIte, reduceDIte, eq_self, ne_eq, gt_iff_lt, ge_iff_le, Option.map_some, Option.map_none, Nat.reduceAdd, Nat.reduceMul, Nat.reduceSub, Nat.reduceLT, Nat.reduceLeDiff, Nat.reduceEqDiff, Nat.reduceSucc, Int.reduceAdd, Int.reduceSub, Int.reduceMul, Int.reduceNeg, Int.reduceLT, Int.reduceLE, Int.reduceEq, Int.reduceNe, Int.reduceToNat, Int.reduceTMod, Int.reduceTDiv, Int.reduceFDiv, Int.reducePow, Nat.reduceMod, Nat.reduceAnd, Nat.reduceDiv, Nat.reducePow, f54, K54_1, K54, f55, K55]
  refine may hp hb (by omega) (fun h1 e1 _ => ?_)
  have l1 := e1.1
  simp (maxSteps := 2000000) (disch := omega) only [stp, ← decide_not, vEqz, eqz, vEqa, eqList, eqAtom, H.at, H.load, vBox, vNewSl, vBld, fill, Mx.part, vClear, vCopy, vBtos, source, lenV, V.isSl, Mx.room, slcut, cutOp, mkOp, bounds, natIn, H.kill, beq_self_eq_true, if_pos, if_neg, List.cons_append, List.nil_append, List.append_nil, List.length_cons, List.length_nil, List.length_set, List.take_succ_cons, List.take_zero, List.drop_succ_cons, List.drop_zero, List.take_nil, List.drop_nil, List.all_cons, List.all_nil, ite_self, if_true, if_false, ite_true, ite_false, reduceIte, reduceDIte, eq_self, ne_eq, gt_iff_lt, ge_iff_le, Option.map_some, Option.map_none, Nat.reduceAdd, Nat.reduceMul, Nat.reduceSub, Nat.reduceLT, Nat.reduceLeDiff, Nat.reduceEqDiff, Nat.reduceSucc, Int.reduceAdd, Int.reduceSub, Int.reduceMul, Int.reduceNeg, Int.reduceLT, Int.reduceLE, Int.reduceEq, Int.reduceNe, Int.reduceToNat, Int.reduceTMod, Int.reduceTDiv, Int.reduceFDiv, Int.reducePow, Nat.reduceMod, Nat.reduceAnd, Nat.reduceDiv, Nat.reducePow, ] at l1
  have g1 : h1.get h.nx = some ⟨false, fsk b p t w0 w1 w2 0 false⟩ := (e1.2 _ (by simp (maxSteps := 2000000) (disch := omega) only [stp, ← decide_not, vEqz, eqz, vEqa, eqList, eqAtom, H.at, H.load, vBox, vNewSl, vBld, fill, Mx.part, vClear, vCopy, vBtos, source, lenV, V.isSl, Mx.room, slcut, cutOp, mkOp, bounds, natIn, H.kill, beq_self_eq_true, if_pos, if_neg, List.cons_append, List.nil_append, List.append_nil, List.length_cons, List.length_nil, List.length_set, List.take_succ_cons, List.take_zero, List.drop_succ_cons, List.drop_zero, List.take_nil, List.drop_nil, List.all_cons, List.all_nil, ite_self, if_true, if_false, ite_true, ite_false, reduceIte, reduceDIte, eq_self, ne_eq, gt_iff_lt, ge_iff_le, Option.map_some, Option.map_none, Nat.reduceAdd, Nat.reduceMul, Nat.reduceSub, Nat.reduceLT, Nat.reduceLeDiff, Nat.reduceEqDiff, Nat.reduceSucc, Int.reduceAdd, Int.reduceSub, Int.reduceMul, Int.reduceNeg, Int.reduceLT, Int.reduceLE, Int.reduceEq, Int.reduceNe, Int.reduceToNat, Int.reduceTMod, Int.reduceTDiv, Int.reduceFDiv, Int.reducePow, Nat.reduceMod, Nat.reduceAnd, Nat.reduceDiv, Nat.reducePow, ]; omega)).trans (by simp (maxSteps := 2000000) (disch := omega) only [stp, ← decide_not, vEqz, eqz, vEqa, eqList, eqAtom, H.at, H.load, vBox, vNewSl, vBld, fill, Mx.part, vClear, vCopy, vBtos, source, lenV, V.isSl, Mx.room, slcut, cutOp, mkOp, bounds, natIn, H.kill, beq_self_eq_true, if_pos, if_neg, List.cons_append, List.nil_append, List.append_nil, List.length_cons, List.length_nil, List.length_set, List.take_succ_cons, List.take_zero, List.drop_succ_cons, List.drop_zero, List.take_nil, List.drop_nil, List.all_cons, List.all_nil, ite_self, if_true, if_false, ite_true, ite_false, reduceIte, reduceDIte, eq_self, ne_eq, gt_iff_lt, ge_iff_le, Option.map_some, Option.map_none, Nat.reduceAdd, Nat.reduceMul, Nat.reduceSub, Nat.reduceLT, Nat.reduceLeDiff, Nat.reduceEqDiff, Nat.reduceSucc, Int.reduceAdd, Int.reduceSub, Int.reduceMul, Int.reduceNeg, Int.reduceLT, Int.reduceLE, Int.reduceEq, Int.reduceNe, Int.reduceToNat, Int.reduceTMod, Int.reduceTDiv, Int.reduceFDiv, Int.reducePow, Nat.reduceMod, Nat.reduceAnd, Nat.reduceDiv, Nat.reducePow, ]; rfl)
  have g2 : h1.get (h.nx + 1) = some ⟨false, [.i .i64 0, .i .i64 0, .i .u64 0, .i .u64 0, .i .u64 0, .i .u64 0, .i .i64 0, .b false]⟩ := (e1.2 _ (by simp (maxSteps := 2000000) (disch := omega) only [stp, ← decide_not, vEqz, eqz, vEqa, eqList, eqAtom, H.at, H.load, vBox, vNewSl, vBld, fill, Mx.part, vClear, vCopy, vBtos, source, lenV, V.isSl, Mx.room, slcut, cutOp, mkOp, bounds, natIn, H.kill, beq_self_eq_true, if_pos, if_neg, List.cons_append, List.nil_append, List.append_nil, List.length_cons, List.length_nil, List.length_set, List.take_succ_cons, List.take_zero, List.drop_succ_cons, List.drop_zero, List.take_nil, List.drop_nil, List.all_cons, List.all_nil, ite_self, if_true, if_false, ite_true, ite_false, reduceIte, reduceDIte, eq_self, ne_eq, gt_iff_lt, ge_iff_le, Option.map_some, Option.map_none, Nat.reduceAdd, Nat.reduceMul, Nat.reduceSub, Nat.reduceLT, Nat.reduceLeDiff, Nat.reduceEqDiff, Nat.reduceSucc, Int.reduceAdd, Int.reduceSub, Int.reduceMul, Int.reduceNeg, Int.reduceLT, Int.reduceLE, Int.reduceEq, Int.reduceNe, Int.reduceToNat, Int.reduceTMod, Int.reduceTDiv, Int.reduceFDiv, Int.reducePow, Nat.reduceMod, Nat.reduceAnd, Nat.reduceDiv, Nat.reducePow, ]; omega)).trans (by simp (maxSteps := 2000000) (disch := omega) only [stp, ← decide_not, vEqz, eqz, vEqa, eqList, eqAtom, H.at, H.load, vBox, vNewSl, vBld, fill, Mx.part, vClear, vCopy, vBtos, source, lenV, V.isSl, Mx.room, slcut, cutOp, mkOp, bounds, natIn, H.kill, beq_self_eq_true, if_pos, if_neg, List.cons_append, List.nil_append, List.append_nil, List.length_cons, List.length_nil, List.length_set, List.take_succ_cons, List.take_zero, List.drop_succ_cons, List.drop_zero, List.take_nil, List.drop_nil, List.all_cons, List.all_nil, ite_self, if_true, if_false, ite_true, ite_false, reduceIte, reduceDIte, eq_self, ne_eq, gt_iff_lt, ge_iff_le, Option.map_some, Option.map_none, Nat.reduceAdd, Nat.reduceMul, Nat.reduceSub, Nat.reduceLT, Nat.reduceLeDiff, Nat.reduceEqDiff, Nat.reduceSucc, Int.reduceAdd, Int.reduceSub, Int.reduceMul, Int.reduceNeg, Int.reduceLT, Int.reduceLE, Int.reduceEq, Int.reduceNe, Int.reduceToNat, Int.reduceTMod, Int.reduceTDiv, Int.reduceFDiv, Int.reducePow, Nat.reduceMod, Nat.reduceAnd, Nat.reduceDiv, Nat.reducePow, ])
  have E1 : Ext h h1 := ⟨by omega, fun id hid => (e1.2 id (by simp (maxSteps := 2000000) (disch := omega) only [stp, ← decide_not, vEqz, eqz, vEqa, eqList, eqAtom, H.at, H.load, vBox, vNewSl, vBld, fill, Mx.part, vClear, vCopy, vBtos, source, lenV, V.isSl, Mx.room, slcut, cutOp, mkOp, bounds, natIn, H.kill, beq_self_eq_true, if_pos, if_neg, List.cons_append, List.nil_append, List.append_nil, List.length_cons, List.length_nil, List.length_set, List.take_succ_cons, List.take_zero, List.drop_succ_cons, List.drop_zero, List.take_nil, List.drop_nil, List.all_cons, List.all_nil, ite_self, if_true, if_false, ite_true, ite_false, reduceIte, reduceDIte, eq_self, ne_eq, gt_iff_lt, ge_iff_le, Option.map_some, Option.map_none, Nat.reduceAdd, Nat.reduceMul, Nat.reduceSub, Nat.reduceLT, Nat.reduceLeDiff, Nat.reduceEqDiff, Nat.reduceSucc, Int.reduceAdd, Int.reduceSub, Int.reduceMul, Int.reduceNeg, Int.reduceLT, Int.reduceLE, Int.reduceEq, Int.reduceNe, Int.reduceToNat, Int.reduceTMod, Int.reduceTDiv, Int.reduceFDiv, Int.reducePow, Nat.reduceMod, Nat.reduceAnd, Nat.reduceDiv, Nat.reducePow, ]; omega)).trans (by simp (maxSteps := 2000000) (disch := omega) only [stp, ← decide_not, vEqz, eqz, vEqa, eqList, eqAtom, H.at, H.load, vBox, vNewSl, vBld, fill, Mx.part, vClear, vCopy, vBtos, source, lenV, V.isSl, Mx.room, slcut, cutOp, mkOp, bounds, natIn, H.kill, beq_self_eq_true, if_pos, if_neg, List.cons_append, List.nil_append, List.append_nil, List.length_cons, List.length_nil, List.length_set, List.take_succ_cons, List.take_zero, List.drop_succ_cons, List.drop_zero, List.take_nil, List.drop_nil, List.all_cons, List.all_nil, ite_self, if_true, if_false, ite_true, ite_false, reduceIte, reduceDIte, eq_self, ne_eq, gt_iff_lt, ge_iff_le, Option.map_some, Option.map_none, Nat.reduceAdd, Nat.reduceMul, Nat.reduceSub, Nat.reduceLT, Nat.reduceLeDiff, Nat.reduceEqDiff, Nat.reduceSucc, Int.reduceAdd, Int.reduceSub, Int.reduceMul, Int.reduceNeg, Int.reduceLT, Int.reduceLE, Int.reduceEq, Int.reduceNe, Int.reduceToNat, Int.reduceTMod, Int.reduceTDiv, Int.reduceFDiv, Int.reducePow, Nat.reduceMod, Nat.reduceAnd, Nat.reduceDiv, Nat.reducePow, ])⟩
  unfold fsk at g1
  simp (maxSteps := 2000000) (disch := omega) only [stp, ← decide_not, vEqz, eqz, vEqa, eqList, eqAtom, H.at, H.load, vBox, vNewSl, vBld, fill, Mx.part, vClear, vCopy, vBtos, source, lenV, V.isSl, Mx.room, slcut, cutOp, mkOp, bounds, natIn, H.kill, beq_self_eq_true, if_pos, if_neg, List.cons_append, List.nil_append, List.append_nil, List.length_cons, List.length_nil, List.length_set, List.take_succ_cons, List.take_zero, List.drop_succ_cons, List.drop_zero, List.take_nil, List.drop_nil, List.all_cons, List.all_nil, ite_self, if_true, if_false, ite_true, ite_false, reduceIte, reduceDIte, eq_self, ne_eq, gt_iff_lt, ge_iff_le, Option.map_some, Option.map_none, Nat.reduceAdd, Nat.reduceMul, Nat.reduceSub, Nat.reduceLT, Nat.reduceLeDiff, Nat.reduceEqDiff, Nat.reduceSucc, Int.reduceAdd, Int.reduceSub, Int.reduceMul, Int.reduceNeg, Int.reduceLT, Int.reduceLE, Int.reduceEq, Int.reduceNe, Int.reduceToNat, Int.reduceTMod, Int.reduceTDiv, Int.reduceFDiv, Int.reducePow, Nat.reduceMod, Nat.reduceAnd, Nat.reduceDiv, Nat.reducePow, K54_1, K54, g1, g2]
  refine stand hp hb (by omega) (by omega) (fun h2 e2 => ?_)
  have E2 := E1.trans e2
  have l2 := e2.1
  have k1 := (e2.2 h.nx (by omega)).trans g1
  have k2 := (e2.2 (h.nx + 1) (by omega)).trans g2
  refine aread (a.ext E2) _ hpl (fun h3 own3 a3 fr3 => ?_)
  have m1 := (fr3.has (⟨by omega, fun ho => by have := a.lt _ ho; omega, k1⟩ : Has h2 own h.nx _))
  have m2 := (fr3.has (⟨by omega, fun ho => by have := a.lt _ ho; omega, k2⟩ : Has h2 own (h.nx + 1) _))
  have c1 := m1.2.2
  have c2 := m2.2.2
  by_cases hw : f (pl b p t).toNat = t + 1
  · rw [if_pos hw] at q
    unfold fsk at q
    simp (maxSteps := 2000000) (disch := omega) only [stp, ← decide_not, vEqz, eqz, vEqa, eqList, eqAtom, H.at, H.load, vBox, vNewSl, vBld, fill, Mx.part, vClear, vCopy, vBtos, source, lenV, V.isSl, Mx.room, slcut, cutOp, mkOp, bounds, natIn, H.kill, beq_self_eq_true, if_pos, if_neg, List.cons_append, List.nil_append, List.append_nil, List.length_cons, List.length_nil, List.length_set, List.take_succ_cons, List.take_zero, List.drop_succ_cons, List.drop_zero, List.take_nil, List.drop_nil, List.all_cons, List.all_nil, ite_self, if_true, if_false, ite_true, ite_false, reduceIte, reduceDIte, eq_self, ne_eq, gt_iff_lt, ge_iff_le, Option.map_some, Option.map_none, Nat.reduceAdd, Nat.reduceMul, Nat.reduceSub, Nat.reduceLT, Nat.reduceLeDiff, Nat.reduceEqDiff, Nat.reduceSucc, Int.reduceAdd, Int.reduceSub, Int.reduceMul, Int.reduceNeg, Int.reduceLT, Int.reduceLE, Int.reduceEq, Int.reduceNe, Int.reduceToNat, Int.reduceTMod, Int.reduceTDiv, Int.reduceFDiv, Int.reducePow, Nat.reduceMod, Nat.reduceAnd, Nat.reduceDiv, Nat.reducePow, K54_1, K54, c1, c2, k1, g1, hw, decide_true]
    exact q _ own3 ((a3.put m1.2.1 _).put m2.2.1 _) ((((E2.fr own).trans fr3).put (by omega) _).put (by omega) _)
  · rw [if_neg hw] at q
    unfold fsk at q
    simp (maxSteps := 2000000) (disch := omega) only [stp, ← decide_not, vEqz, eqz, vEqa, eqList, eqAtom, H.at, H.load, vBox, vNewSl, vBld, fill, Mx.part, vClear, vCopy, vBtos, source, lenV, V.isSl, Mx.room, slcut, cutOp, mkOp, bounds, natIn, H.kill, beq_self_eq_true, if_pos, if_neg, List.cons_append, List.nil_append, List.append_nil, List.length_cons, List.length_nil, List.length_set, List.take_succ_cons, List.take_zero, List.drop_succ_cons, List.drop_zero, List.take_nil, List.drop_nil, List.all_cons, List.all_nil, ite_self, if_true, if_false, ite_true, ite_false, reduceIte, reduceDIte, eq_self, ne_eq, gt_iff_lt, ge_iff_le, Option.map_some, Option.map_none, Nat.reduceAdd, Nat.reduceMul, Nat.reduceSub, Nat.reduceLT, Nat.reduceLeDiff, Nat.reduceEqDiff, Nat.reduceSucc, Int.reduceAdd, Int.reduceSub, Int.reduceMul, Int.reduceNeg, Int.reduceLT, Int.reduceLE, Int.reduceEq, Int.reduceNe, Int.reduceToNat, Int.reduceTMod, Int.reduceTDiv, Int.reduceFDiv, Int.reducePow, Nat.reduceMod, Nat.reduceAnd, Nat.reduceDiv, Nat.reducePow, K54_1, K54, c1, c2, k1, g1, hw, decide_false]
    exact q _ own3 ((a3.put m1.2.1 _).put m2.2.1 _) ((((E2.fr own).trans fr3).put (by omega) _).put (by omega) _)
/-- a step that reads word 0 -/
theorem f_d0 {h : H} {ra n : Nat} {f : Nat → Int} {ts : List Int} {st : Int} {own : Nat → Prop} (a : Ar h ra n f ts st own) {b p t w0 w1 w2 : Int} (hp : isP p) (hb : 0 ≤ b) (hc : b + 1 + 4 * p ≤ n) (ht : 0 ≤ t ∧ t < 18446744073709551615) {Q : V → H → Prop}
    (q : ∀ h' own', Ar h' ra n f (addT ts (pl b p t + 1 + 0)) st own' → Fr h own h' own' → Q (.agg (fsk b p t (f (pl b p t + 1 + 0).toNat) w1 w2 2 false)) h') : @wF IP 54 [.agg (fsk b p t w0 w1 w2 1 false), .p (some (ra, 0))] h ⟨Q⟩ := by
  have hm := hp.mod t ht.1
  have hpl : 0 ≤ pl b p t ∧ pl b p t + 3 < n := by unfold pl; have := hp.rng; omega
  have hs := a.sz
  have hr := hp.rng
  unfold fsk
  simp (maxSteps := 2000000) (disch := omega) only [stp, ← decide_not, vEqz, eqz, vEqa, eqList, eqAtom, H.at, H.load, vBox, vNewSl, vBld, fill, Mx.part, vClear, vCopy, vBtos, source, lenV, V.isSl, Mx.room, slcut, cutOp, mkOp, bounds, natIn, H.kill, beq_self_eq_true, if_pos, if_neg, List.cons_append, List.nil_append, List.append_nil, List.length_cons, List.length_nil, List.length_set, List.take_succ_cons, List.take_zero, List.drop_succ_cons, List.drop_zero, List.take_nil, List.drop_nil, List.all_cons, List.all_nil, ite_self, if_true, if_false, ite_true, ite_false, reduceIte, reduceDIte, eq_self, ne_eq, gt_iff_lt, ge_iff_le, Option.map_some, Option.map_none, Nat.reduceAdd, Nat.reduceMul, Nat.reduceSub, Nat.reduceLT, Nat.reduceLeDiff, Nat.reduceEqDiff, Nat.reduceSucc, Int.reduceAdd, Int.reduceSub, Int.reduceMul, Int.reduceNeg, Int.reduceLT, Int.reduceLE, Int.reduceEq, Int.reduceNe, Int.reduceToNat, Int.reduceTMod, Int.reduceTDiv, Int.reduceFDiv, Int.reducePow, Nat.reduceMod, Nat.reduceAnd, Nat.reduceDiv, Nat.reducePow, f54, K54_1, K54, f55, K55]
  refine may hp hb (by omega) (fun h1 e1 _ => ?_)
  have l1 := e1.1
  simp (maxSteps := 2000000) (disch := omega) only [stp, ← decide_not, vEqz, eqz, vEqa, eqList, eqAtom, H.at, H.load, vBox, vNewSl, vBld, fill, Mx.part, vClear, vCopy, vBtos, source, lenV, V.isSl, Mx.room, slcut, cutOp, mkOp, bounds, natIn, H.kill, beq_self_eq_true, if_pos, if_neg, List.cons_append, List.nil_append, List.append_nil, List.length_cons, List.length_nil, List.length_set, List.take_succ_cons, List.take_zero, List.drop_succ_cons, List.drop_zero, List.take_nil, List.drop_nil, List.all_cons, List.all_nil, ite_self, if_true, if_false, ite_true, ite_false, reduceIte, reduceDIte, eq_self, ne_eq, gt_iff_lt, ge_iff_le, Option.map_some, Option.map_none, Nat.reduceAdd, Nat.reduceMul, Nat.reduceSub, Nat.reduceLT, Nat.reduceLeDiff, Nat.reduceEqDiff, Nat.reduceSucc, Int.reduceAdd, Int.reduceSub, Int.reduceMul, Int.reduceNeg, Int.reduceLT, Int.reduceLE, Int.reduceEq, Int.reduceNe, Int.reduceToNat, Int.reduceTMod, Int.reduceTDiv, Int.reduceFDiv, Int.reducePow, Nat.reduceMod, Nat.reduceAnd, Nat.reduceDiv, Nat.reducePow, ] at l1
  have g1 : h1.get h.nx = some ⟨false, fsk b p t w0 w1 w2 1 false⟩ := (e1.2 _ (by simp (maxSteps := 2000000) (disch := omega) only [stp, ← decide_not, vEqz, eqz, vEqa, eqList, eqAtom, H.at, H.load, vBox, vNewSl, vBld, fill, Mx.part, vClear, vCopy, vBtos, source, lenV, V.isSl, Mx.room, slcut, cutOp, mkOp, bounds, natIn, H.kill, beq_self_eq_true, if_pos, if_neg, List.cons_append, List.nil_append, List.append_nil, List.length_cons, List.length_nil, List.length_set, List.take_succ_cons, List.take_zero, List.drop_succ_cons, List.drop_zero, List.take_nil, List.drop_nil, List.all_cons, List.all_nil, ite_self, if_true, if_false, ite_true, ite_false, reduceIte, reduceDIte, eq_self, ne_eq, gt_iff_lt, ge_iff_le, Option.map_some, Option.map_none, Nat.reduceAdd, Nat.reduceMul, Nat.reduceSub, Nat.reduceLT, Nat.reduceLeDiff, Nat.reduceEqDiff, Nat.reduceSucc, Int.reduceAdd, Int.reduceSub, Int.reduceMul, Int.reduceNeg, Int.reduceLT, Int.reduceLE, Int.reduceEq, Int.reduceNe, Int.reduceToNat, Int.reduceTMod, Int.reduceTDiv, Int.reduceFDiv, Int.reducePow, Nat.reduceMod, Nat.reduceAnd, Nat.reduceDiv, Nat.reducePow, ]; omega)).trans (by simp (maxSteps := 2000000) (disch := omega) only [stp, ← decide_not, vEqz, eqz, vEqa, eqList, eqAtom, H.at, H.load, vBox, vNewSl, vBld, fill, Mx.part, vClear, vCopy, vBtos, source, lenV, V.isSl, Mx.room, slcut, cutOp, mkOp, bounds, natIn, H.kill, beq_self_eq_true, if_pos, if_neg, List.cons_append, List.nil_append, List.append_nil, List.length_cons, List.length_nil, List.length_set, List.take_succ_cons, List.take_zero, List.drop_succ_cons, List.drop_zero, List.take_nil, List.drop_nil, List.all_cons, List.all_nil, ite_self, if_true, if_false, ite_true, ite_false, reduceIte, reduceDIte, eq_self, ne_eq, gt_iff_lt, ge_iff_le, Option.map_some, Option.map_none, Nat.reduceAdd, Nat.reduceMul, Nat.reduceSub, Nat.reduceLT, Nat.reduceLeDiff, Nat.reduceEqDiff, Nat.reduceSucc, Int.reduceAdd, Int.reduceSub, Int.reduceMul, Int.reduceNeg, Int.reduceLT, Int.reduceLE, Int.reduceEq, Int.reduceNe, Int.reduceToNat, Int.reduceTMod, Int.reduceTDiv, Int.reduceFDiv, Int.reducePow, Nat.reduceMod, Nat.reduceAnd, Nat.reduceDiv, Nat.reducePow, ]; rfl)
  have g2 : h1.get (h.nx + 1) = some ⟨false, [.i .i64 0, .i .i64 0, .i .u64 0, .i .u64 0, .i .u64 0, .i .u64 0, .i .i64 0, .b false]⟩ := (e1.2 _ (by simp (maxSteps := 2000000) (disch := omega) only [stp, ← decide_not, vEqz, eqz, vEqa, eqList, eqAtom, H.at, H.load, vBox, vNewSl, vBld, fill, Mx.part, vClear, vCopy, vBtos, source, lenV, V.isSl, Mx.room, slcut, cutOp, mkOp, bounds, natIn, H.kill, beq_self_eq_true, if_pos, if_neg, List.cons_append, List.nil_append, List.append_nil, List.length_cons, List.length_nil, List.length_set, List.take_succ_cons, List.take_zero, List.drop_succ_cons, List.drop_zero, List.take_nil, List.drop_nil, List.all_cons, List.all_nil, ite_self, if_true, if_false, ite_true, ite_false, reduceIte, reduceDIte, eq_self, ne_eq, gt_iff_lt, ge_iff_le, Option.map_some, Option.map_none, Nat.reduceAdd, Nat.reduceMul, Nat.reduceSub, Nat.reduceLT, Nat.reduceLeDiff, Nat.reduceEqDiff, Nat.reduceSucc, Int.reduceAdd, Int.reduceSub, Int.reduceMul, Int.reduceNeg, Int.reduceLT, Int.reduceLE, Int.reduceEq, Int.reduceNe, Int.reduceToNat, Int.reduceTMod, Int.reduceTDiv, Int.reduceFDiv, Int.reducePow, Nat.reduceMod, Nat.reduceAnd, Nat.reduceDiv, Nat.reducePow, ]; omega)).trans (by simp (maxSteps := 2000000) (disch := omega) only [stp, ← decide_not, vEqz, eqz, vEqa, eqList, eqAtom, H.at, H.load, vBox, vNewSl, vBld, fill, Mx.part, vClear, vCopy, vBtos, source, lenV, V.isSl, Mx.room, slcut, cutOp, mkOp, bounds, natIn, H.kill, beq_self_eq_true, if_pos, if_neg, List.cons_append, List.nil_append, List.append_nil, List.length_cons, List.length_nil, List.length_set, List.take_succ_cons, List.take_zero, List.drop_succ_cons, List.drop_zero, List.take_nil, List.drop_nil, List.all_cons, List.all_nil, ite_self, if_true, if_false, ite_true, ite_false, reduceIte, reduceDIte, eq_self, ne_eq, gt_iff_lt, ge_iff_le, Option.map_some, Option.map_none, Nat.reduceAdd, Nat.reduceMul, Nat.reduceSub, Nat.reduceLT, Nat.reduceLeDiff, Nat.reduceEqDiff, Nat.reduceSucc, Int.reduceAdd, Int.reduceSub, Int.reduceMul, Int.reduceNeg, Int.reduceLT, Int.reduceLE, Int.reduceEq, Int.reduceNe, Int.reduceToNat, Int.reduceTMod, Int.reduceTDiv, Int.reduceFDiv, Int.reducePow, Nat.reduceMod, Nat.reduceAnd, Nat.reduceDiv, Nat.reducePow, ])
  have E1 : Ext h h1 := ⟨by omega, fun id hid => (e1.2 id (by simp (maxSteps := 2000000) (disch := omega) only [stp, ← decide_not, vEqz, eqz, vEqa, eqList, eqAtom, H.at, H.load, vBox, vNewSl, vBld, fill, Mx.part, vClear, vCopy, vBtos, source, lenV, V.isSl, Mx.room, slcut, cutOp, mkOp, bounds, natIn, H.kill, beq_self_eq_true, if_pos, if_neg, List.cons_append, List.nil_append, List.append_nil, List.length_cons, List.length_nil, List.length_set, List.take_succ_cons, List.take_zero, List.drop_succ_cons, List.drop_zero, List.take_nil, List.drop_nil, List.all_cons, List.all_nil, ite_self, if_true, if_false, ite_true, ite_false, reduceIte, reduceDIte, eq_self, ne_eq, gt_iff_lt, ge_iff_le, Option.map_some, Option.map_none, Nat.reduceAdd, Nat.reduceMul, Nat.reduceSub, Nat.reduceLT, Nat.reduceLeDiff, Nat.reduceEqDiff, Nat.reduceSucc, Int.reduceAdd, Int.reduceSub, Int.reduceMul, Int.reduceNeg, Int.reduceLT, Int.reduceLE, Int.reduceEq, Int.reduceNe, Int.reduceToNat, Int.reduceTMod, Int.reduceTDiv, Int.reduceFDiv, Int.reducePow, Nat.reduceMod, Nat.reduceAnd, Nat.reduceDiv, Nat.reducePow, ]; omega)).trans (by simp (maxSteps := 2000000) (disch := omega) only [stp, ← decide_not, vEqz, eqz, vEqa, eqList, eqAtom, H.at, H.load, vBox, vNewSl, vBld, fill, Mx.part, vClear, vCopy, vBtos, source, lenV, V.isSl, Mx.room, slcut, cutOp, mkOp, bounds, natIn, H.kill, beq_self_eq_true, if_pos, if_neg, List.cons_append, List.nil_append, List.append_nil, List.length_cons, List.length_nil, List.length_set, List.take_succ_cons, List.take_zero, List.drop_succ_cons, List.drop_zero, List.take_nil, List.drop_nil, List.all_cons, List.all_nil, ite_self, if_true, if_false, ite_true, ite_false, reduceIte, reduceDIte, eq_self, ne_eq, gt_iff_lt, ge_iff_le, Option.map_some, Option.map_none, Nat.reduceAdd, Nat.reduceMul, Nat.reduceSub, Nat.reduceLT, Nat.reduceLeDiff, Nat.reduceEqDiff, Nat.reduceSucc, Int.reduceAdd, Int.reduceSub, Int.reduceMul, Int.reduceNeg, Int.reduceLT, Int.reduceLE, Int.reduceEq, Int.reduceNe, Int.reduceToNat, Int.reduceTMod, Int.reduceTDiv, Int.reduceFDiv, Int.reducePow, Nat.reduceMod, Nat.reduceAnd, Nat.reduceDiv, Nat.reducePow, ])⟩
  unfold fsk at g1
  simp (maxSteps := 2000000) (disch := omega) only [stp, ← decide_not, vEqz, eqz, vEqa, eqList, eqAtom, H.at, H.load, vBox, vNewSl, vBld, fill, Mx.part, vClear, vCopy, vBtos, source, lenV, V.isSl, Mx.room, slcut, cutOp, mkOp, bounds, natIn, H.kill, beq_self_eq_true, if_pos, if_neg, List.cons_append, List.nil_append, List.append_nil, List.length_cons, List.length_nil, List.length_set, List.take_succ_cons, List.take_zero, List.drop_succ_cons, List.drop_zero, List.take_nil, List.drop_nil, List.all_cons, List.all_nil, ite_self, if_true, if_false, ite_true, ite_false, reduceIte, reduceDIte, eq_self, ne_eq, gt_iff_lt, ge_iff_le, Option.map_some, Option.map_none, Nat.reduceAdd, Nat.reduceMul, Nat.reduceSub, Nat.reduceLT, Nat.reduceLeDiff, Nat.reduceEqDiff, Nat.reduceSucc, Int.reduceAdd, Int.reduceSub, Int.reduceMul, Int.reduceNeg, Int.reduceLT, Int.reduceLE, Int.reduceEq, Int.reduceNe, Int.reduceToNat, Int.reduceTMod, Int.reduceTDiv, Int.reduceFDiv, Int.reducePow, Nat.reduceMod, Nat.reduceAnd, Nat.reduceDiv, Nat.reducePow, K54_1, K54, g1, g2]
  refine rdata hp hb (by omega) (by omega) (by omega) (fun h2 e2 => ?_)
  have E2 := E1.trans e2
  have l2 := e2.1
  have k1 := (e2.2 h.nx (by omega)).trans g1
  have k2 := (e2.2 (h.nx + 1) (by omega)).trans g2
  refine aread (a.ext E2) _ (by omega) (fun h3 own3 a3 fr3 => ?_)
  have m1 := (fr3.has (⟨by omega, fun ho => by have := a.lt _ ho; omega, k1⟩ : Has h2 own h.nx _))
  have m2 := (fr3.has (⟨by omega, fun ho => by have := a.lt _ ho; omega, k2⟩ : Has h2 own (h.nx + 1) _))
  have c1 := m1.2.2
  have c2 := m2.2.2
  unfold fsk at q
  simp (maxSteps := 2000000) (disch := omega) only [stp, ← decide_not, vEqz, eqz, vEqa, eqList, eqAtom, H.at, H.load, vBox, vNewSl, vBld, fill, Mx.part, vClear, vCopy, vBtos, source, lenV, V.isSl, Mx.room, slcut, cutOp, mkOp, bounds, natIn, H.kill, beq_self_eq_true, if_pos, if_neg, List.cons_append, List.nil_append, List.append_nil, List.length_cons, List.length_nil, List.length_set, List.take_succ_cons, List.take_zero, List.drop_succ_cons, List.drop_zero, List.take_nil, List.drop_nil, List.all_cons, List.all_nil, ite_self, if_true, if_false, ite_true, ite_false, reduceIte, reduceDIte, eq_self, ne_eq, gt_iff_lt, ge_iff_le, Option.map_some, Option.map_none, Nat.reduceAdd, Nat.reduceMul, Nat.reduceSub, Nat.reduceLT, Nat.reduceLeDiff, Nat.reduceEqDiff, Nat.reduceSucc, Int.reduceAdd, Int.reduceSub, Int.reduceMul, Int.reduceNeg, Int.reduceLT, Int.reduceLE, Int.reduceEq, Int.reduceNe, Int.reduceToNat, Int.reduceTMod, Int.reduceTDiv, Int.reduceFDiv, Int.reducePow, Nat.reduceMod, Nat.reduceAnd, Nat.reduceDiv, Nat.reducePow, K54_1, K54, c1, c2, k1, g1]
  exact q _ own3 (((a3.put m1.2.1 _).put m1.2.1 _).put m2.2.1 _) (((((E2.fr own).trans fr3).put (by omega) _).put (by omega) _).put (by omega) _)
/-- a step that reads word 1 -/
theorem f_d1 {h : H} {ra n : Nat} {f : Nat → Int} {ts : List Int} {st : Int} {own : Nat → Prop} (a : Ar h ra n f ts st own) {b p t w0 w1 w2 : Int} (hp : isP p) (hb : 0 ≤ b) (hc : b + 1 + 4 * p ≤ n) (ht : 0 ≤ t ∧ t < 18446744073709551615) {Q : V → H → Prop}
    (q : ∀ h' own', Ar h' ra n f (addT ts (pl b p t + 1 + 1)) st own' → Fr h own h' own' → Q (.agg (fsk b p t w0 (f (pl b p t + 1 + 1).toNat) w2 3 false)) h') : @wF IP 54 [.agg (fsk b p t w0 w1 w2 2 false), .p (some (ra, 0))] h ⟨Q⟩ := by
  have hm := hp.mod t ht.1
  have hpl : 0 ≤ pl b p t ∧ pl b p t + 3 < n := by unfold pl; have := hp.rng; omega
  have hs := a.sz
  have hr := hp.rng
  unfold fsk
  simp (maxSteps := 2000000) (disch := omega) only [stp, ← decide_not, vEqz, eqz, vEqa, eqList, eqAtom, H.at, H.load, vBox, vNewSl, vBld, fill, Mx.part, vClear, vCopy, vBtos, source, lenV, V.isSl, Mx.room, slcut, cutOp, mkOp, bounds, natIn, H.kill, beq_self_eq_true, if_pos, if_neg, List.cons_append, List.nil_append, List.append_nil, List.length_cons, List.length_nil, List.length_set, List.take_succ_cons, List.take_zero, List.drop_succ_cons, List.drop_zero, List.take_nil, List.drop_nil, List.all_cons, List.all_nil, ite_self, if_true, if_false, ite_true, ite_false, reduceIte, reduceDIte, eq_self, ne_eq, gt_iff_lt, ge_iff_le, Option.map_some, Option.map_none, Nat.reduceAdd, Nat.reduceMul, Nat.reduceSub, Nat.reduceLT, Nat.reduceLeDiff, Nat.reduceEqDiff, Nat.reduceSucc, Int.reduceAdd, Int.reduceSub, Int.reduceMul, Int.reduceNeg, Int.reduceLT, Int.reduceLE, Int.reduceEq, Int.reduceNe, Int.reduceToNat, Int.reduceTMod, Int.reduceTDiv, Int.reduceFDiv, Int.reducePow, Nat.reduceMod, Nat.reduceAnd, Nat.reduceDiv, Nat.reducePow, f54, K54_1, K54, f55, K55]
  refine may hp hb (by omega) (fun h1 e1 _ => ?_)
  have l1 := e1.1
  simp (maxSteps := 2000000) (disch := omega) only [stp, ← decide_not, vEqz, eqz, vEqa, eqList, eqAtom, H.at, H.load, vBox, vNewSl, vBld, fill, Mx.part, vClear, vCopy, vBtos, source, lenV, V.isSl, Mx.room, slcut, cutOp, mkOp, bounds, natIn, H.kill, beq_self_eq_true, if_pos, if_neg, List.cons_append, List.nil_append, List.append_nil, List.length_cons, List.length_nil, List.length_set, List.take_succ_cons, List.take_zero, List.drop_succ_cons, List.drop_zero, List.take_nil, List.drop_nil, List.all_cons, List.all_nil, ite_self, if_true, if_false, ite_true, ite_false, reduceIte, reduceDIte, eq_self, ne_eq, gt_iff_lt, ge_iff_le, Option.map_some, Option.map_none, Nat.reduceAdd, Nat.reduceMul, Nat.reduceSub, Nat.reduceLT, Nat.reduceLeDiff, Nat.reduceEqDiff, Nat.reduceSucc, Int.reduceAdd, Int.reduceSub, Int.reduceMul, Int.reduceNeg, Int.reduceLT, Int.reduceLE, Int.reduceEq, Int.reduceNe, Int.reduceToNat, Int.reduceTMod, Int.reduceTDiv, Int.reduceFDiv, Int.reducePow, Nat.reduceMod, Nat.reduceAnd, Nat.reduceDiv, Nat.reducePow, ] at l1
  have g1 : h1.get h.nx = some ⟨false, fsk b p t w0 w1 w2 2 false⟩ := (e1.2 _ (by simp (maxSteps := 2000000) (disch := omega) only [stp, ← decide_not, vEqz, eqz, vEqa, eqList, eqAtom, H.at, H.load, vBox, vNewSl, vBld, fill, Mx.part, vClear, vCopy, vBtos, source, lenV, V.isSl, Mx.room, slcut, cutOp, mkOp, bounds, natIn, H.kill, beq_self_eq_true, if_pos, if_neg, List.cons_append, List.nil_append, List.append_nil, List.length_cons, List.length_nil, List.length_set, List.take_succ_cons, List.take_zero, List.drop_succ_cons, List.drop_zero, List.take_nil, List.drop_nil, List.all_cons, List.all_nil, ite_self, if_true, if_false, ite_true, ite_false, reduceIte, reduceDIte, eq_self, ne_eq, gt_iff_lt, ge_iff_le, Option.map_some, Option.map_none, Nat.reduceAdd, Nat.reduceMul, Nat.reduceSub, Nat.reduceLT, Nat.reduceLeDiff, Nat.reduceEqDiff, Nat.reduceSucc, Int.reduceAdd, Int.reduceSub, Int.reduceMul, Int.reduceNeg, Int.reduceLT, Int.reduceLE, Int.reduceEq, Int.reduceNe, Int.reduceToNat, Int.reduceTMod, Int.reduceTDiv, Int.reduceFDiv, Int.reducePow, Nat.reduceMod, Nat.reduceAnd, Nat.reduceDiv, Nat.reducePow, ]; omega)).trans (by simp (maxSteps := 2000000) (disch := omega) only [stp, ← decide_not, vEqz, eqz, vEqa, eqList, eqAtom, H.at, H.load, vBox, vNewSl, vBld, fill, Mx.part, vClear, vCopy, vBtos, source, lenV, V.isSl, Mx.room, slcut, cutOp, mkOp, bounds, natIn, H.kill, beq_self_eq_true, if_pos, if_neg, List.cons_append, List.nil_append, List.append_nil, List.length_cons, List.length_nil, List.length_set, List.take_succ_cons, List.take_zero, List.drop_succ_cons, List.drop_zero, List.take_nil, List.drop_nil, List.all_cons, List.all_nil, ite_self, if_true, if_false, ite_true, ite_false, reduceIte, reduceDIte, eq_self, ne_eq, gt_iff_lt, ge_iff_le, Option.map_some, Option.map_none, Nat.reduceAdd, Nat.reduceMul, Nat.reduceSub, Nat.reduceLT, Nat.reduceLeDiff, Nat.reduceEqDiff, Nat.reduceSucc, Int.reduceAdd, Int.reduceSub, Int.reduceMul, Int.reduceNeg, Int.reduceLT, Int.reduceLE, Int.reduceEq, Int.reduceNe, Int.reduceToNat, Int.reduceTMod, Int.reduceTDiv, Int.reduceFDiv, Int.reducePow, Nat.reduceMod, Nat.reduceAnd, Nat.reduceDiv, Nat.reducePow, ]; rfl)
  have g2 : h1.get (h.nx + 1) = some ⟨false, [.i .i64 0, .i .i64 0, .i .u64 0, .i .u64 0, .i .u64 0, .i .u64 0, .i .i64 0, .b false]⟩ := (e1.2 _ (by simp (maxSteps := 2000000) (disch := omega) only [stp, ← decide_not, vEqz, eqz, vEqa, eqList, eqAtom, H.at, H.load, vBox, vNewSl, vBld, fill, Mx.part, vClear, vCopy, vBtos, source, lenV, V.isSl, Mx.room, slcut, cutOp, mkOp, bounds, natIn, H.kill, beq_self_eq_true, if_pos, if_neg, List.cons_append, List.nil_append, List.append_nil, List.length_cons, List.length_nil, List.length_set, List.take_succ_cons, List.take_zero, List.drop_succ_cons, List.drop_zero, List.take_nil, List.drop_nil, List.all_cons, List.all_nil, ite_self, if_true, if_false, ite_true, ite_false, reduceIte, reduceDIte, eq_self, ne_eq, gt_iff_lt, ge_iff_le, Option.map_some, Option.map_none, Nat.reduceAdd, Nat.reduceMul, Nat.reduceSub, Nat.reduceLT, Nat.reduceLeDiff, Nat.reduceEqDiff, Nat.reduceSucc, Int.reduceAdd, Int.reduceSub, Int.reduceMul, Int.reduceNeg, Int.reduceLT, Int.reduceLE, Int.reduceEq, Int.reduceNe, Int.reduceToNat, Int.reduceTMod, Int.reduceTDiv, Int.reduceFDiv, Int.reducePow, Nat.reduceMod, Nat.reduceAnd, Nat.reduceDiv, Nat.reducePow, ]; omega)).trans (by simp (maxSteps := 2000000) (disch := omega) only [stp, ← decide_not, vEqz, eqz, vEqa, eqList, eqAtom, H.at, H.load, vBox, vNewSl, vBld, fill, Mx.part, vClear, vCopy, vBtos, source, lenV, V.isSl, Mx.room, slcut, cutOp, mkOp, bounds, natIn, H.kill, beq_self_eq_true, if_pos, if_neg, List.cons_append, List.nil_append, List.append_nil, List.length_cons, List.length_nil, List.length_set, List.take_succ_cons, List.take_zero, List.drop_succ_cons, List.drop_zero, List.take_nil, List.drop_nil, List.all_cons, List.all_nil, ite_self, if_true, if_false, ite_true, ite_false, reduceIte, reduceDIte, eq_self, ne_eq, gt_iff_lt, ge_iff_le, Option.map_some, Option.map_none, Nat.reduceAdd, Nat.reduceMul, Nat.reduceSub, Nat.reduceLT, Nat.reduceLeDiff, Nat.reduceEqDiff, Nat.reduceSucc, Int.reduceAdd, Int.reduceSub, Int.reduceMul, Int.reduceNeg, Int.reduceLT, Int.reduceLE, Int.reduceEq, Int.reduceNe, Int.reduceToNat, Int.reduceTMod, Int.reduceTDiv, Int.reduceFDiv, Int.reducePow, Nat.reduceMod, Nat.reduceAnd, Nat.reduceDiv, Nat.reducePow, ])
  have E1 : Ext h h1 := ⟨by omega, fun id hid => (e1.2 id (by simp (maxSteps := 2000000) (disch := omega) only [stp, ← decide_not, vEqz, eqz, vEqa, eqList, eqAtom, H.at, H.load, vBox, vNewSl, vBld, fill, Mx.part, vClear, vCopy, vBtos, source, lenV, V.isSl, Mx.room, slcut, cutOp, mkOp, bounds, natIn, H.kill, beq_self_eq_true, if_pos, if_neg, List.cons_append, List.nil_append, List.append_nil, List.length_cons, List.length_nil, List.length_set, List.take_succ_cons, List.take_zero, List.drop_succ_cons, List.drop_zero, List.take_nil, List.drop_nil, List.all_cons, List.all_nil, ite_self, if_true, if_false, ite_true, ite_false, reduceIte, reduceDIte, eq_self, ne_eq, gt_iff_lt, ge_iff_le, Option.map_some, Option.map_none, Nat.reduceAdd, Nat.reduceMul, Nat.reduceSub, Nat.reduceLT, Nat.reduceLeDiff, Nat.reduceEqDiff, Nat.reduceSucc, Int.reduceAdd, Int.reduceSub, Int.reduceMul, Int.reduceNeg, Int.reduceLT, Int.reduceLE, Int.reduceEq, Int.reduceNe, Int.reduceToNat, Int.reduceTMod, Int.reduceTDiv, Int.reduceFDiv, Int.reducePow, Nat.reduceMod, Nat.reduceAnd, Nat.reduceDiv, Nat.reducePow, ]; omega)).trans (by simp (maxSteps := 2000000) (disch := omega) only [stp, ← decide_not, vEqz, eqz, vEqa, eqList, eqAtom, H.at, H.load, vBox, vNewSl, vBld, fill, Mx.part, vClear, vCopy, vBtos, source, lenV, V.isSl, Mx.room, slcut, cutOp, mkOp, bounds, natIn, H.kill, beq_self_eq_true, if_pos, if_neg, List.cons_append, List.nil_append, List.append_nil, List.length_cons, List.length_nil, List.length_set, List.take_succ_cons, List.take_zero, List.drop_succ_cons, List.drop_zero, List.take_nil, List.drop_nil, List.all_cons, List.all_nil, ite_self, if_true, if_false, ite_true, ite_false, reduceIte, reduceDIte, eq_self, ne_eq, gt_iff_lt, ge_iff_le, Option.map_some, Option.map_none, Nat.reduceAdd, Nat.reduceMul, Nat.reduceSub, Nat.reduceLT, Nat.reduceLeDiff, Nat.reduceEqDiff, Nat.reduceSucc, Int.reduceAdd, Int.reduceSub, Int.reduceMul, Int.reduceNeg, Int.reduceLT, Int.reduceLE, Int.reduceEq, Int.reduceNe, Int.reduceToNat, Int.reduceTMod, Int.reduceTDiv, Int.reduceFDiv, Int.reducePow, Nat.reduceMod, Nat.reduceAnd, Nat.reduceDiv, Nat.reducePow, ])⟩
  unfold fsk at g1
  simp (maxSteps := 2000000) (disch := omega) only [stp, ← decide_not, vEqz, eqz, vEqa, eqList, eqAtom, H.at, H.load, vBox, vNewSl, vBld, fill, Mx.part, vClear, vCopy, vBtos, source, lenV, V.isSl, Mx.room, slcut, cutOp, mkOp, bounds, natIn, H.kill, beq_self_eq_true, if_pos, if_neg, List.cons_append, List.nil_append, List.append_nil, List.length_cons, List.length_nil, List.length_set, List.take_succ_cons, List.take_zero, List.drop_succ_cons, List.drop_zero, List.take_nil, List.drop_nil, List.all_cons, List.all_nil, ite_self, if_true, if_false, ite_true, ite_false, reduceIte, reduceDIte, eq_self, ne_eq, gt_iff_lt, ge_iff_le, Option.map_some, Option.map_none, Nat.reduceAdd, Nat.reduceMul, Nat.reduceSub, Nat.reduceLT, Nat.reduceLeDiff, Nat.reduceEqDiff, Nat.reduceSucc, Int.reduceAdd, Int.reduceSub, Int.reduceMul, Int.reduceNeg, Int.reduceLT, Int.reduceLE, Int.reduceEq, Int.reduceNe, Int.reduceToNat, Int.reduceTMod, Int.reduceTDiv, Int.reduceFDiv, Int.reducePow, Nat.reduceMod, Nat.reduceAnd, Nat.reduceDiv, Nat.reducePow, K54_1, K54, g1, g2]
  refine rdata hp hb (by omega) (by omega) (by omega) (fun h2 e2 => ?_)
  have E2 := E1.trans e2
  have l2 := e2.1
  have k1 := (e2.2 h.nx (by omega)).trans g1
  have k2 := (e2.2 (h.nx + 1) (by omega)).trans g2
  refine aread (a.ext E2) _ (by omega) (fun h3 own3 a3 fr3 => ?_)
  have m1 := (fr3.has (⟨by omega, fun ho => by have := a.lt _ ho; omega, k1⟩ : Has h2 own h.nx _))
  have m2 := (fr3.has (⟨by omega, fun ho => by have := a.lt _ ho; omega, k2⟩ : Has h2 own (h.nx + 1) _))
  have c1 := m1.2.2
  have c2 := m2.2.2
  unfold fsk at q
  simp (maxSteps := 2000000) (disch := omega) only [stp, ← decide_not, vEqz, eqz, vEqa, eqList, eqAtom, H.at, H.load, vBox, vNewSl, vBld, fill, Mx.part, vClear, vCopy, vBtos, source, lenV, V.isSl, Mx.room, slcut, cutOp, mkOp, bounds, natIn, H.kill, beq_self_eq_true, if_pos, if_neg, List.cons_append, List.nil_append, List.append_nil, List.length_cons, List.length_nil, List.length_set, List.take_succ_cons, List.take_zero, List.drop_succ_cons, List.drop_zero, List.take_nil, List.drop_nil, List.all_cons, List.all_nil, ite_self, if_true, if_false, ite_true, ite_false, reduceIte, reduceDIte, eq_self, ne_eq, gt_iff_lt, ge_iff_le, Option.map_some, Option.map_none, Nat.reduceAdd, Nat.reduceMul, Nat.reduceSub, Nat.reduceLT, Nat.reduceLeDiff, Nat.reduceEqDiff, Nat.reduceSucc, Int.reduceAdd, Int.reduceSub, Int.reduceMul, Int.reduceNeg, Int.reduceLT, Int.reduceLE, Int.reduceEq, Int.reduceNe, Int.reduceToNat, Int.reduceTMod, Int.reduceTDiv, Int.reduceFDiv, Int.reducePow, Nat.reduceMod, Nat.reduceAnd, Nat.reduceDiv, Nat.reducePow, K54_1, K54, c1, c2, k1, g1]
  exact q _ own3 (((a3.put m1.2.1 _).put m1.2.1 _).put m2.2.1 _) (((((E2.fr own).trans fr3).put (by omega) _).put (by omega) _).put (by omega) _)
/-- a step that reads word 2 -/
theorem f_d2 {h : H} {ra n : Nat} {f : Nat → Int} {ts : List Int} {st : Int} {own : Nat → Prop} (a : Ar h ra n f ts st own) {b p t w0 w1 w2 : Int} (hp : isP p) (hb : 0 ≤ b) (hc : b + 1 + 4 * p ≤ n) (ht : 0 ≤ t ∧ t < 18446744073709551615) {Q : V → H → Prop}
    (q : ∀ h' own', Ar h' ra n f (addT ts (pl b p t + 1 + 2)) st own' → Fr h own h' own' → Q (.agg (fsk b p t w0 w1 (f (pl b p t + 1 + 2).toNat) 4 false)) h') : @wF IP 54 [.agg (fsk b p t w0 w1 w2 3 false), .p (some (ra, 0))] h ⟨Q⟩ := by
  have hm := hp.mod t ht.1
  have hpl : 0 ≤ pl b p t ∧ pl b p t + 3 < n := by unfold pl; have := hp.rng; omega
  have hs := a.sz
  have hr := hp.rng
  unfold fsk
  simp (maxSteps := 2000000) (disch := omega) only [stp, ← decide_not, vEqz, eqz, vEqa, eqList, eqAtom, H.at, H.load, vBox, vNewSl, vBld, fill, Mx.part, vClear, vCopy, vBtos, source, lenV, V.isSl, Mx.room, slcut, cutOp, mkOp, bounds, natIn, H.kill, beq_self_eq_true, if_pos, if_neg, List.cons_append, List.nil_append, List.append_nil, List.length_cons, List.length_nil, List.length_set, List.take_succ_cons, List.take_zero, List.drop_succ_cons, List.drop_zero, List.take_nil, List.drop_nil, List.all_cons, List.all_nil, ite_self, if_true, if_false, ite_true, ite_false, reduceIte, reduceDIte, eq_self, ne_eq, gt_iff_lt, ge_iff_le, Option.map_some, Option.map_none, Nat.reduceAdd, Nat.reduceMul, Nat.reduceSub, Nat.reduceLT, Nat.reduceLeDiff, Nat.reduceEqDiff, Nat.reduceSucc, Int.reduceAdd, Int.reduceSub, Int.reduceMul, Int.reduceNeg, Int.reduceLT, Int.reduceLE, Int.reduceEq, Int.reduceNe, Int.reduceToNat, Int.reduceTMod, Int.reduceTDiv, Int.reduceFDiv, Int.reducePow, Nat.reduceMod, Nat.reduceAnd, Nat.reduceDiv, Nat.reducePow, f54, K54_1, K54, f55, K55]
  refine may hp hb (by omega) (fun h1 e1 _ => ?_)
  have l1 := e1.1
  simp (maxSteps := 2000000) (disch := omega) only [stp, ← decide_not, vEqz, eqz, vEqa, eqList, eqAtom, H.at, H.load, vBox, vNewSl, vBld, fill, Mx.part, vClear, vCopy, vBtos, source, lenV, V.isSl, Mx.room, slcut, cutOp, mkOp, bounds, natIn, H.kill, beq_self_eq_true, if_pos, if_neg, List.cons_append, List.nil_append, List.append_nil, List.length_cons, List.length_nil, List.length_set, List.take_succ_cons, List.take_zero, List.drop_succ_cons, List.drop_zero, List.take_nil, List.drop_nil, List.all_cons, List.all_nil, ite_self, if_true, if_false, ite_true, ite_false, reduceIte, reduceDIte, eq_self, ne_eq, gt_iff_lt, ge_iff_le, Option.map_some, Option.map_none, Nat.reduceAdd, Nat.reduceMul, Nat.reduceSub, Nat.reduceLT, Nat.reduceLeDiff, Nat.reduceEqDiff, Nat.reduceSucc, Int.reduceAdd, Int.reduceSub, Int.reduceMul, Int.reduceNeg, Int.reduceLT, Int.reduceLE, Int.reduceEq, Int.reduceNe, Int.reduceToNat, Int.reduceTMod, Int.reduceTDiv, Int.reduceFDiv, Int.reducePow, Nat.reduceMod, Nat.reduceAnd, Nat.reduceDiv, Nat.reducePow, ] at l1
  have g1 : h1.get h.nx = some ⟨false, fsk b p t w0 w1 w2 3 false⟩ := (e1.2 _ (by simp (maxSteps := 2000000) (disch := omega) only [stp, ← decide_not, vEqz, eqz, vEqa, eqList, eqAtom, H.at, H.load, vBox, vNewSl, vBld, fill, Mx.part, vClear, vCopy, vBtos, source, lenV, V.isSl, Mx.room, slcut, cutOp, mkOp, bounds, natIn, H.kill, beq_self_eq_true, if_pos, if_neg, List.cons_append, List.nil_append, List.append_nil, List.length_cons, List.length_nil, List.length_set, List.take_succ_cons, List.take_zero, List.drop_succ_cons, List.drop_zero, List.take_nil, List.drop_nil, List.all_cons, List.all_nil, ite_self, if_true, if_false, ite_true, ite_false, reduceIte, reduceDIte, eq_self, ne_eq, gt_iff_lt, ge_iff_le, Option.map_some, Option.map_none, Nat.reduceAdd, Nat.reduceMul, Nat.reduceSub, Nat.reduceLT, Nat.reduceLeDiff, Nat.reduceEqDiff, Nat.reduceSucc, Int.reduceAdd, Int.reduceSub, Int.reduceMul, Int.reduceNeg, Int.reduceLT, Int.reduceLE, Int.reduceEq, Int.reduceNe, Int.reduceToNat, Int.reduceTMod, Int.reduceTDiv, Int.reduceFDiv, Int.reducePow, Nat.reduceMod, Nat.reduceAnd, Nat.reduceDiv, Nat.reducePow, ]; omega)).trans (by simp (maxSteps := 2000000) (disch := omega) only [stp, ← decide_not, vEqz, eqz, vEqa, eqList, eqAtom, H.at, H.load, vBox, vNewSl, vBld, fill, Mx.part, vClear, vCopy, vBtos, source, lenV, V.isSl, Mx.room, slcut, cutOp, mkOp, bounds, natIn, H.kill, beq_self_eq_true, if_pos, if_neg, List.cons_append, List.nil_append, List.append_nil, List.length_cons, List.length_nil, List.length_set, List.take_succ_cons, List.take_zero, List.drop_succ_cons, List.drop_zero, List.take_nil, List.drop_nil, List.all_cons, List.all_nil, ite_self, if_true, if_false, ite_true, ite_false, reduceIte, reduceDIte, eq_self, ne_eq, gt_iff_lt, ge_iff_le, Option.map_some, Option.map_none, Nat.reduceAdd, Nat.reduceMul, Nat.reduceSub, Nat.reduceLT, Nat.reduceLeDiff, Nat.reduceEqDiff, Nat.reduceSucc, Int.reduceAdd, Int.reduceSub, Int.reduceMul, Int.reduceNeg, Int.reduceLT, Int.reduceLE, Int.reduceEq, Int.reduceNe, Int.reduceToNat, Int.reduceTMod, Int.reduceTDiv, Int.reduceFDiv, Int.reducePow, Nat.reduceMod, Nat.reduceAnd, Nat.reduceDiv, Nat.reducePow, ]; rfl)
  have g2 : h1.get (h.nx + 1) = some ⟨false, [.i .i64 0, .i .i64 0, .i .u64 0, .i .u64 0, .i .u64 0, .i .u64 0, .i .i64 0, .b false]⟩ := (e1.2 _ (by simp (maxSteps := 2000000) (disch := omega) only [stp, ← decide_not, vEqz, eqz, vEqa, eqList, eqAtom, H.at, H.load, vBox, vNewSl, vBld, fill, Mx.part, vClear, vCopy, vBtos, source, lenV, V.isSl, Mx.room, slcut, cutOp, mkOp, bounds, natIn, H.kill, beq_self_eq_true, if_pos, if_neg, List.cons_append, List.nil_append, List.append_nil, List.length_cons, List.length_nil, List.length_set, List.take_succ_cons, List.take_zero, List.drop_succ_cons, List.drop_zero, List.take_nil, List.drop_nil, List.all_cons, List.all_nil, ite_self, if_true, if_false, ite_true, ite_false, reduceIte, reduceDIte, eq_self, ne_eq, gt_iff_lt, ge_iff_le, Option.map_some, Option.map_none, Nat.reduceAdd, Nat.reduceMul, Nat.reduceSub, Nat.reduceLT, Nat.reduceLeDiff, Nat.reduceEqDiff, Nat.reduceSucc, Int.reduceAdd, Int.reduceSub, Int.reduceMul, Int.reduceNeg, Int.reduceLT, Int.reduceLE, Int.reduceEq, Int.reduceNe, Int.reduceToNat, Int.reduceTMod, Int.reduceTDiv, Int.reduceFDiv, Int.reducePow, Nat.reduceMod, Nat.reduceAnd, Nat.reduceDiv, Nat.reducePow, ]; omega)).trans (by simp (maxSteps := 2000000) (disch := omega) only [stp, ← decide_not, vEqz, eqz, vEqa, eqList, eqAtom, H.at, H.load, vBox, vNewSl, vBld, fill, Mx.part, vClear, vCopy, vBtos, source, lenV, V.isSl, Mx.room, slcut, cutOp, mkOp, bounds, natIn, H.kill, beq_self_eq_true, if_pos, if_neg, List.cons_append, List.nil_append, List.append_nil, List.length_cons, List.length_nil, List.length_set, List.take_succ_cons, List.take_zero, List.drop_succ_cons, List.drop_zero, List.take_nil, List.drop_nil, List.all_cons, List.all_nil, ite_self, if_true, if_false, ite_true, ite_false, reduceIte, reduceDIte, eq_self, ne_eq, gt_iff_lt, ge_iff_le, Option.map_some, Option.map_none, Nat.reduceAdd, Nat.reduceMul, Nat.reduceSub, Nat.reduceLT, Nat.reduceLeDiff, Nat.reduceEqDiff, Nat.reduceSucc, Int.reduceAdd, Int.reduceSub, Int.reduceMul, Int.reduceNeg, Int.reduceLT, Int.reduceLE, Int.reduceEq, Int.reduceNe, Int.reduceToNat, Int.reduceTMod, Int.reduceTDiv, Int.reduceFDiv, Int.reducePow, Nat.reduceMod, Nat.reduceAnd, Nat.reduceDiv, Nat.reducePow, ])
  have E1 : Ext h h1 := ⟨by omega, fun id hid => (e1.2 id (by simp (maxSteps := 2000000) (disch := omega) only [stp, ← decide_not, vEqz, eqz, vEqa, eqList, eqAtom, H.at, H.load, vBox, vNewSl, vBld, fill, Mx.part, vClear, vCopy, vBtos, source, lenV, V.isSl, Mx.room, slcut, cutOp, mkOp, bounds, natIn, H.kill, beq_self_eq_true, if_pos, if_neg, List.cons_append, List.nil_append, List.append_nil, List.length_cons, List.length_nil, List.length_set, List.take_succ_cons, List.take_zero, List.drop_succ_cons, List.drop_zero, List.take_nil, List.drop_nil, List.all_cons, List.all_nil, ite_self, if_true, if_false, ite_true, ite_false, reduceIte, reduceDIte, eq_self, ne_eq, gt_iff_lt, ge_iff_le, Option.map_some, Option.map_none, Nat.reduceAdd, Nat.reduceMul, Nat.reduceSub, Nat.reduceLT, Nat.reduceLeDiff, Nat.reduceEqDiff, Nat.reduceSucc, Int.reduceAdd, Int.reduceSub, Int.reduceMul, Int.reduceNeg, Int.reduceLT, Int.reduceLE, Int.reduceEq, Int.reduceNe, Int.reduceToNat, Int.reduceTMod, Int.reduceTDiv, Int.reduceFDiv, Int.reducePow, Nat.reduceMod, Nat.reduceAnd, Nat.reduceDiv, Nat.reducePow, ]; omega)).trans (by simp (maxSteps := 2000000) (disch := omega) only [stp, ← decide_not, vEqz, eqz, vEqa, eqList, eqAtom, H.at, H.load, vBox, vNewSl, vBld, fill, Mx.part, vClear, vCopy, vBtos, source, lenV, V.isSl, Mx.room, slcut, cutOp, mkOp, bounds, natIn, H.kill, beq_self_eq_true, if_pos, if_neg, List.cons_append, List.nil_append, List.append_nil, List.length_cons, List.length_nil, List.length_set, List.take_succ_cons, List.take_zero, List.drop_succ_cons, List.drop_zero, List.take_nil, List.drop_nil, List.all_cons, List.all_nil, ite_self, if_true, if_false, ite_true, ite_false, reduceIte, reduceDIte, eq_self, ne_eq, gt_iff_lt, ge_iff_le, Option.map_some, Option.map_none, Nat.reduceAdd, Nat.reduceMul, Nat.reduceSub, Nat.reduceLT, Nat.reduceLeDiff, Nat.reduceEqDiff, Nat.reduceSucc, Int.reduceAdd, Int.reduceSub, Int.reduceMul, Int.reduceNeg, Int.reduceLT, Int.reduceLE, Int.reduceEq, Int.reduceNe, Int.reduceToNat, Int.reduceTMod, Int.reduceTDiv, Int.reduceFDiv, Int.reducePow, Nat.reduceMod, Nat.reduceAnd, Nat.reduceDiv, Nat.reducePow, ])⟩
  unfold fsk at g1
  simp (maxSteps := 2000000) (disch := omega) only [stp, ← decide_not, vEqz, eqz, vEqa, eqList, eqAtom, H.at, H.load, vBox, vNewSl, vBld, fill, Mx.part, vClear, vCopy, vBtos, source, lenV, V.isSl, Mx.room, slcut, cutOp, mkOp, bounds, natIn, H.kill, beq_self_eq_true, if_pos, if_neg, List.cons_append, List.nil_append, List.append_nil, List.length_cons, List.length_nil, List.length_set, List.take_succ_cons, List.take_zero, List.drop_succ_cons, List.drop_zero, List.take_nil, List.drop_nil, List.all_cons, List.all_nil, ite_self, if_true, if_false, ite_true, ite_false, reduceIte, reduceDIte, eq_self, ne_eq, gt_iff_lt, ge_iff_le, Option.map_some, Option.map_none, Nat.reduceAdd, Nat.reduceMul, Nat.reduceSub, Nat.reduceLT, Nat.reduceLeDiff, Nat.reduceEqDiff, Nat.reduceSucc, Int.reduceAdd, Int.reduceSub, Int.reduceMul, Int.reduceNeg, Int.reduceLT, Int.reduceLE, Int.reduceEq, Int.reduceNe, Int.reduceToNat, Int.reduceTMod, Int.reduceTDiv, Int.reduceFDiv, Int.reducePow, Nat.reduceMod, Nat.reduceAnd, Nat.reduceDiv, Nat.reducePow, K54_1, K54, g1, g2]
  refine rdata hp hb (by omega) (by omega) (by omega) (fun h2 e2 => ?_)
  have E2 := E1.trans e2
  have l2 := e2.1
  have k1 := (e2.2 h.nx (by omega)).trans g1
  have k2 := (e2.2 (h.nx + 1) (by omega)).trans g2
  refine aread (a.ext E2) _ (by omega) (fun h3 own3 a3 fr3 => ?_)
  have m1 := (fr3.has (⟨by omega, fun ho => by have := a.lt _ ho; omega, k1⟩ : Has h2 own h.nx _))
  have m2 := (fr3.has (⟨by omega, fun ho => by have := a.lt _ ho; omega, k2⟩ : Has h2 own (h.nx + 1) _))
  have c1 := m1.2.2
  have c2 := m2.2.2
  unfold fsk at q
  simp (maxSteps := 2000000) (disch := omega) only [stp, ← decide_not, vEqz, eqz, vEqa, eqList, eqAtom, H.at, H.load, vBox, vNewSl, vBld, fill, Mx.part, vClear, vCopy, vBtos, source, lenV, V.isSl, Mx.room, slcut, cutOp, mkOp, bounds, natIn, H.kill, beq_self_eq_true, if_pos, if_neg, List.cons_append, List.nil_append, List.append_nil, List.length_cons, List.length_nil, List.length_set, List.take_succ_cons, List.take_zero, List.drop_succ_cons, List.drop_zero, List.take_nil, List.drop_nil, List.all_cons, List.all_nil, ite_self, if_true, if_false, ite_true, ite_false, reduceIte, reduceDIte, eq_self, ne_eq, gt_iff_lt, ge_iff_le, Option.map_some, Option.map_none, Nat.reduceAdd, Nat.reduceMul, Nat.reduceSub, Nat.reduceLT, Nat.reduceLeDiff, Nat.reduceEqDiff, Nat.reduceSucc, Int.reduceAdd, Int.reduceSub, Int.reduceMul, Int.reduceNeg, Int.reduceLT, Int.reduceLE, Int.reduceEq, Int.reduceNe, Int.reduceToNat, Int.reduceTMod, Int.reduceTDiv, Int.reduceFDiv, Int.reducePow, Nat.reduceMod, Nat.reduceAnd, Nat.reduceDiv, Nat.reducePow, K54_1, K54, c1, c2, k1, g1]
  exact q _ own3 (((a3.put m1.2.1 _).put m1.2.1 _).put m2.2.1 _) (((((E2.fr own).trans fr3).put (by omega) _).put (by omega) _).put (by omega) _)
/-- the last step: its place is empty for a later turn -/
theorem f_leave {h : H} {ra n : Nat} {f : Nat → Int} {ts : List Int} {st : Int} {own : Nat → Prop} (a : Ar h ra n f ts st own) {b p t w0 w1 w2 : Int} (hp : isP p) (hb : 0 ≤ b) (hc : b + 1 + 4 * p ≤ n) (ht : 0 ≤ t ∧ t < 18446744073709551000) {Q : V → H → Prop}
    (q : ∀ h' own', Ar h' ra n (fset f (pl b p t).toNat (t + p)) (addT ts (pl b p t)) st own' → Fr h own h' own' → Q (.agg (fsk b p t w0 w1 w2 5 false)) h') : @wF IP 54 [.agg (fsk b p t w0 w1 w2 4 false), .p (some (ra, 0))] h ⟨Q⟩ := by
  have hm := hp.mod t ht.1
  have hpl : 0 ≤ pl b p t ∧ pl b p t + 3 < n := by unfold pl; have := hp.rng; omega
  have hs := a.sz
  have hr := hp.rng
  unfold fsk
  simp (maxSteps := 2000000) (disch := omega) only [stp, ← decide_not, vEqz, eqz, vEqa, eqList, eqAtom, H.at, H.load, vBox, vNewSl, vBld, fill, Mx.part, vClear, vCopy, vBtos, source, lenV, V.isSl, Mx.room, slcut, cutOp, mkOp, bounds, natIn, H.kill, beq_self_eq_true, if_pos, if_neg, List.cons_append, List.nil_append, List.append_nil, List.length_cons, List.length_nil, List.length_set, List.take_succ_cons, List.take_zero, List.drop_succ_cons, List.drop_zero, List.take_nil, List.drop_nil, List.all_cons, List.all_nil, ite_self, if_true, if_false, ite_true, ite_false, reduceIte, reduceDIte, eq_self, ne_eq, gt_iff_lt, ge_iff_le, Option.map_some, Option.map_none, Nat.reduceAdd, Nat.reduceMul, Nat.reduceSub, Nat.reduceLT, Nat.reduceLeDiff, Nat.reduceEqDiff, Nat.reduceSucc, Int.reduceAdd, Int.reduceSub, Int.reduceMul, Int.reduceNeg, Int.reduceLT, Int.reduceLE, Int.reduceEq, Int.reduceNe, Int.reduceToNat, Int.reduceTMod, Int.reduceTDiv, Int.reduceFDiv, Int.reducePow, Nat.reduceMod, Nat.reduceAnd, Nat.reduceDiv, Nat.reducePow, f54, K54_1, K54, f55, K55]
  refine may hp hb (by omega) (fun h1 e1 _ => ?_)
  have l1 := e1.1
  simp (maxSteps := 2000000) (disch := omega) only [stp, ← decide_not, vEqz, eqz, vEqa, eqList, eqAtom, H.at, H.load, vBox, vNewSl, vBld, fill, Mx.part, vClear, vCopy, vBtos, source, lenV, V.isSl, Mx.room, slcut, cutOp, mkOp, bounds, natIn, H.kill, beq_self_eq_true, if_pos, if_neg, List.cons_append, List.nil_append, List.append_nil, List.length_cons, List.length_nil, List.length_set, List.take_succ_cons, List.take_zero, List.drop_succ_cons, List.drop_zero, List.take_nil, List.drop_nil, List.all_cons, List.all_nil, ite_self, if_true, if_false, ite_true, ite_false, reduceIte, reduceDIte, eq_self, ne_eq, gt_iff_lt, ge_iff_le, Option.map_some, Option.map_none, Nat.reduceAdd, Nat.reduceMul, Nat.reduceSub, Nat.reduceLT, Nat.reduceLeDiff, Nat.reduceEqDiff, Nat.reduceSucc, Int.reduceAdd, Int.reduceSub, Int.reduceMul, Int.reduceNeg, Int.reduceLT, Int.reduceLE, Int.reduceEq, Int.reduceNe, Int.reduceToNat, Int.reduceTMod, Int.reduceTDiv, Int.reduceFDiv, Int.reducePow, Nat.reduceMod, Nat.reduceAnd, Nat.reduceDiv, Nat.reducePow, ] at l1
  have g1 : h1.get h.nx = some ⟨false, fsk b p t w0 w1 w2 4 false⟩ := (e1.2 _ (by simp (maxSteps := 2000000) (disch := omega) only [stp, ← decide_not, vEqz, eqz, vEqa, eqList, eqAtom, H.at, H.load, vBox, vNewSl, vBld, fill, Mx.part, vClear, vCopy, vBtos, source, lenV, V.isSl, Mx.room, slcut, cutOp, mkOp, bounds, natIn, H.kill, beq_self_eq_true, if_pos, if_neg, List.cons_append, List.nil_append, List.append_nil, List.length_cons, List.length_nil, List.length_set, List.take_succ_cons, List.take_zero, List.drop_succ_cons, List.drop_zero, List.take_nil, List.drop_nil, List.all_cons, List.all_nil, ite_self, if_true, if_false, ite_true, ite_false, reduceIte, reduceDIte, eq_self, ne_eq, gt_iff_lt, ge_iff_le, Option.map_some, Option.map_none, Nat.reduceAdd, Nat.reduceMul, Nat.reduceSub, Nat.reduceLT, Nat.reduceLeDiff, Nat.reduceEqDiff, Nat.reduceSucc, Int.reduceAdd, Int.reduceSub, Int.reduceMul, Int.reduceNeg, Int.reduceLT, Int.reduceLE, Int.reduceEq, Int.reduceNe, Int.reduceToNat, Int.reduceTMod, Int.reduceTDiv, Int.reduceFDiv, Int.reducePow, Nat.reduceMod, Nat.reduceAnd, Nat.reduceDiv, Nat.reducePow, ]; omega)).trans (by simp (maxSteps := 2000000) (disch := omega) only [stp, ← decide_not, vEqz, eqz, vEqa, eqList, eqAtom, H.at, H.load, vBox, vNewSl, vBld, fill, Mx.part, vClear, vCopy, vBtos, source, lenV, V.isSl, Mx.room, slcut, cutOp, mkOp, bounds, natIn, H.kill, beq_self_eq_true, if_pos, if_neg, List.cons_append, List.nil_append, List.append_nil, List.length_cons, List.length_nil, List.length_set, List.take_succ_cons, List.take_zero, List.drop_succ_cons, List.drop_zero, List.take_nil, List.drop_nil, List.all_cons, List.all_nil, ite_self, if_true, if_false, ite_true, ite_false, reduceIte, reduceDIte, eq_self, ne_eq, gt_iff_lt, ge_iff_le, Option.map_some, Option.map_none, Nat.reduceAdd, Nat.reduceMul, Nat.reduceSub, Nat.reduceLT, Nat.reduceLeDiff, Nat.reduceEqDiff, Nat.reduceSucc, Int.reduceAdd, Int.reduceSub, Int.reduceMul, Int.reduceNeg, Int.reduceLT, Int.reduceLE, Int.reduceEq, Int.reduceNe, Int.reduceToNat, Int.reduceTMod, Int.reduceTDiv, Int.reduceFDiv, Int.reducePow, Nat.reduceMod, Nat.reduceAnd, Nat.reduceDiv, Nat.reducePow, ]; rfl)
  have g2 : h1.get (h.nx + 1) = some ⟨false, [.i .i64 0, .i .i64 0, .i .u64 0, .i .u64 0, .i .u64 0, .i .u64 0, .i .i64 0, .b false]⟩ := (e1.2 _ (by simp (maxSteps := 2000000) (disch := omega) only [stp, ← decide_not, vEqz, eqz, vEqa, eqList, eqAtom, H.at, H.load, vBox, vNewSl, vBld, fill, Mx.part, vClear, vCopy, vBtos, source, lenV, V.isSl, Mx.room, slcut, cutOp, mkOp, bounds, natIn, H.kill, beq_self_eq_true, if_pos, if_neg, List.cons_append, List.nil_append, List.append_nil, List.length_cons, List.length_nil, List.length_set, List.take_succ_cons, List.take_zero, List.drop_succ_cons, List.drop_zero, List.take_nil, List.drop_nil, List.all_cons, List.all_nil, ite_self, if_true, if_false, ite_true, ite_false, reduceIte, reduceDIte, eq_self, ne_eq, gt_iff_lt, ge_iff_le, Option.map_some, Option.map_none, Nat.reduceAdd, Nat.reduceMul, Nat.reduceSub, Nat.reduceLT, Nat.reduceLeDiff, Nat.reduceEqDiff, Nat.reduceSucc, Int.reduceAdd, Int.reduceSub, Int.reduceMul, Int.reduceNeg, Int.reduceLT, Int.reduceLE, Int.reduceEq, Int.reduceNe, Int.reduceToNat, Int.reduceTMod, Int.reduceTDiv, Int.reduceFDiv, Int.reducePow, Nat.reduceMod, Nat.reduceAnd, Nat.reduceDiv, Nat.reducePow, ]; omega)).trans (by simp (maxSteps := 2000000) (disch := omega) only [stp, ← decide_not, vEqz, eqz, vEqa, eqList, eqAtom, H.at, H.load, vBox, vNewSl, vBld, fill, Mx.part, vClear, vCopy, vBtos, source, lenV, V.isSl, Mx.room, slcut, cutOp, mkOp, bounds, natIn, H.kill, beq_self_eq_true, if_pos, if_neg, List.cons_append, List.nil_append, List.append_nil, List.length_cons, List.length_nil, List.length_set, List.take_succ_cons, List.take_zero, List.drop_succ_cons, List.drop_zero, List.take_nil, List.drop_nil, List.all_cons, List.all_nil, ite_self, if_true, if_false, ite_true, ite_false, reduceIte, reduceDIte, eq_self, ne_eq, gt_iff_lt, ge_iff_le, Option.map_some, Option.map_none, Nat.reduceAdd, Nat.reduceMul, Nat.reduceSub, Nat.reduceLT, Nat.reduceLeDiff, Nat.reduceEqDiff, Nat.reduceSucc, Int.reduceAdd, Int.reduceSub, Int.reduceMul, Int.reduceNeg, Int.reduceLT, Int.reduceLE, Int.reduceEq, Int.reduceNe, Int.reduceToNat, Int.reduceTMod, Int.reduceTDiv, Int.reduceFDiv, Int.reducePow, Nat.reduceMod, Nat.reduceAnd, Nat.reduceDiv, Nat.reducePow, ])
  have E1 : Ext h h1 := ⟨by omega, fun id hid => (e1.2 id (by simp (maxSteps := 2000000) (disch := omega) only [stp, ← decide_not, vEqz, eqz, vEqa, eqList, eqAtom, H.at, H.load, vBox, vNewSl, vBld, fill, Mx.part, vClear, vCopy, vBtos, source, lenV, V.isSl, Mx.room, slcut, cutOp, mkOp, bounds, natIn, H.kill, beq_self_eq_true, if_pos, if_neg, List.cons_append, List.nil_append, List.append_nil, List.length_cons, List.length_nil, List.length_set, List.take_succ_cons, List.take_zero, List.drop_succ_cons, List.drop_zero, List.take_nil, List.drop_nil, List.all_cons, List.all_nil, ite_self, if_true, if_false, ite_true, ite_false, reduceIte, reduceDIte, eq_self, ne_eq, gt_iff_lt, ge_iff_le, Option.map_some, Option.map_none, Nat.reduceAdd, Nat.reduceMul, Nat.reduceSub, Nat.reduceLT, Nat.reduceLeDiff, Nat.reduceEqDiff, Nat.reduceSucc, Int.reduceAdd, Int.reduceSub, Int.reduceMul, Int.reduceNeg, Int.reduceLT, Int.reduceLE, Int.reduceEq, Int.reduceNe, Int.reduceToNat, Int.reduceTMod, Int.reduceTDiv, Int.reduceFDiv, Int.reducePow, Nat.reduceMod, Nat.reduceAnd, Nat.reduceDiv, Nat.reducePow, ]; omega)).trans (by simp (maxSteps := 2000000) (disch := omega) only [stp, ← decide_not, vEqz, eqz, vEqa, eqList, eqAtom, H.at, H.load, vBox, vNewSl, vBld, fill, Mx.part, vClear, vCopy, vBtos, source, lenV, V.isSl, Mx.room, slcut, cutOp, mkOp, bounds, natIn, H.kill, beq_self_eq_true, if_pos, if_neg, List.cons_append, List.nil_append, List.append_nil, List.length_cons, List.length_nil, List.length_set, List.take_succ_cons, List.take_zero, List.drop_succ_cons, List.drop_zero, List.take_nil, List.drop_nil, List.all_cons, List.all_nil, ite_self, if_true, if_false, ite_true, ite_false, reduceIte, reduceDIte, eq_self, ne_eq, gt_iff_lt, ge_iff_le, Option.map_some, Option.map_none, Nat.reduceAdd, Nat.reduceMul, Nat.reduceSub, Nat.reduceLT, Nat.reduceLeDiff, Nat.reduceEqDiff, Nat.reduceSucc, Int.reduceAdd, Int.reduceSub, Int.reduceMul, Int.reduceNeg, Int.reduceLT, Int.reduceLE, Int.reduceEq, Int.reduceNe, Int.reduceToNat, Int.reduceTMod, Int.reduceTDiv, Int.reduceFDiv, Int.reducePow, Nat.reduceMod, Nat.reduceAnd, Nat.reduceDiv, Nat.reducePow, ])⟩
  unfold fsk at g1
  simp (maxSteps := 2000000) (disch := omega) only [stp, ← decide_not, vEqz, eqz, vEqa, eqList, eqAtom, H.at, H.load, vBox, vNewSl, vBld, fill, Mx.part, vClear, vCopy, vBtos, source, lenV, V.isSl, Mx.room, slcut, cutOp, mkOp, bounds, natIn, H.kill, beq_self_eq_true, if_pos, if_neg, List.cons_append, List.nil_append, List.append_nil, List.length_cons, List.length_nil, List.length_set, List.take_succ_cons, List.take_zero, List.drop_succ_cons, List.drop_zero, List.take_nil, List.drop_nil, List.all_cons, List.all_nil, ite_self, if_true, if_false, ite_true, ite_false, reduceIte, reduceDIte, eq_self, ne_eq, gt_iff_lt, ge_iff_le, Option.map_some, Option.map_none, Nat.reduceAdd, Nat.reduceMul, Nat.reduceSub, Nat.reduceLT, Nat.reduceLeDiff, Nat.reduceEqDiff, Nat.reduceSucc, Int.reduceAdd, Int.reduceSub, Int.reduceMul, Int.reduceNeg, Int.reduceLT, Int.reduceLE, Int.reduceEq, Int.reduceNe, Int.reduceToNat, Int.reduceTMod, Int.reduceTDiv, Int.reduceFDiv, Int.reducePow, Nat.reduceMod, Nat.reduceAnd, Nat.reduceDiv, Nat.reducePow, K54_1, K54, g1, g2]
  refine stand hp hb (by omega) (by omega) (fun h2 e2 => ?_)
  have E2 := E1.trans e2
  have l2 := e2.1
  have k1 := (e2.2 h.nx (by omega)).trans g1
  have k2 := (e2.2 (h.nx + 1) (by omega)).trans g2
  simp (maxSteps := 2000000) (disch := omega) only [stp, ← decide_not, vEqz, eqz, vEqa, eqList, eqAtom, H.at, H.load, vBox, vNewSl, vBld, fill, Mx.part, vClear, vCopy, vBtos, source, lenV, V.isSl, Mx.room, slcut, cutOp, mkOp, bounds, natIn, H.kill, beq_self_eq_true, if_pos, if_neg, List.cons_append, List.nil_append, List.append_nil, List.length_cons, List.length_nil, List.length_set, List.take_succ_cons, List.take_zero, List.drop_succ_cons, List.drop_zero, List.take_nil, List.drop_nil, List.all_cons, List.all_nil, ite_self, if_true, if_false, ite_true, ite_false, reduceIte, reduceDIte, eq_self, ne_eq, gt_iff_lt, ge_iff_le, Option.map_some, Option.map_none, Nat.reduceAdd, Nat.reduceMul, Nat.reduceSub, Nat.reduceLT, Nat.reduceLeDiff, Nat.reduceEqDiff, Nat.reduceSucc, Int.reduceAdd, Int.reduceSub, Int.reduceMul, Int.reduceNeg, Int.reduceLT, Int.reduceLE, Int.reduceEq, Int.reduceNe, Int.reduceToNat, Int.reduceTMod, Int.reduceTDiv, Int.reduceFDiv, Int.reducePow, Nat.reduceMod, Nat.reduceAnd, Nat.reduceDiv, Nat.reducePow, K54_1, K54, k1, k2]
  refine awrite (a.ext E2) _ _ (by omega) (fun h3 own3 a3 fr3 => ?_)
  have m1 := (fr3.has (⟨by omega, fun ho => by have := a.lt _ ho; omega, k1⟩ : Has h2 own h.nx _))
  have m2 := (fr3.has (⟨by omega, fun ho => by have := a.lt _ ho; omega, k2⟩ : Has h2 own (h.nx + 1) _))
  have c1 := m1.2.2
  have c2 := m2.2.2
  unfold fsk at q
  simp (maxSteps := 2000000) (disch := omega) only [stp, ← decide_not, vEqz, eqz, vEqa, eqList, eqAtom, H.at, H.load, vBox, vNewSl, vBld, fill, Mx.part, vClear, vCopy, vBtos, source, lenV, V.isSl, Mx.room, slcut, cutOp, mkOp, bounds, natIn, H.kill, beq_self_eq_true, if_pos, if_neg, List.cons_append, List.nil_append, List.append_nil, List.length_cons, List.length_nil, List.length_set, List.take_succ_cons, List.take_zero, List.drop_succ_cons, List.drop_zero, List.take_nil, List.drop_nil, List.all_cons, List.all_nil, ite_self, if_true, if_false, ite_true, ite_false, reduceIte, reduceDIte, eq_self, ne_eq, gt_iff_lt, ge_iff_le, Option.map_some, Option.map_none, Nat.reduceAdd, Nat.reduceMul, Nat.reduceSub, Nat.reduceLT, Nat.reduceLeDiff, Nat.reduceEqDiff, Nat.reduceSucc, Int.reduceAdd, Int.reduceSub, Int.reduceMul, Int.reduceNeg, Int.reduceLT, Int.reduceLE, Int.reduceEq, Int.reduceNe, Int.reduceToNat, Int.reduceTMod, Int.reduceTDiv, Int.reduceFDiv, Int.reducePow, Nat.reduceMod, Nat.reduceAnd, Nat.reduceDiv, Nat.reducePow, K54_1, K54, c1, c2, k1, g1]
  exact q _ own3 ((a3.put m1.2.1 _).put m2.2.1 _) ((((E2.fr own).trans fr3).put (by omega) _).put (by omega) _)
/-- what a step of a fetching does -/
def FDoes (ra n : Nat) (A B : List V) (f f' : Nat → Int) (c st : Int) : Prop := ∀ (h : H) (own : Nat → Prop) (Q : V → H → Prop), Ar h ra n f [] st own → (∀ h' own', Ar h' ra n f' [c] st own' → Fr h own h' own' → Q (.agg B) h') → @wF IP 54 [.agg A, .p (some (ra, 0))] h ⟨Q⟩
theorem fiter {hs h : H} {owns own : Nat → Prop} {ra n : Nat} {f f' : Nat → Int} {ts : List Int} {st c : Int} (a : Ar h ra n f ts st own) (fr : Fr hs owns h own) {rt : Nat} (hsl : hs.nx ≤ rt) {b p t w0 w1 w2 at_ v0 v1 v2 at' : Int} {e' : Bool}
    (T : Has h own rt ⟨false, fsk b p t w0 w1 w2 at_ false⟩) (hd : at_ ≠ 5) (D : FDoes ra n (fsk b p t w0 w1 w2 at_ false) (fsk b p t v0 v1 v2 at' e') f f' c st) (k : Int) (hk : 0 ≤ k ∧ k < 40)
    {q : Hid (V → H → Prop)} {g : Hid (V → V → V → H → Prop)} (Qg : ∀ h' own', Ar h' ra n f' [c] st own' → Fr hs owns h' own' → Has h' own' rt ⟨false, fsk b p t v0 v1 v2 at' e'⟩ → g.un (.p (some (ra, 0))) (.p (some (rt, 0))) (.i .i64 (k + 1)) h') :
    @L60_2 (.p (some (ra, 0))) (.p (some (rt, 0))) (.i .i64 k) h q g := by
  have T0 := T.2.2
  have l0 := T.1
  unfold fsk at T0
  simp (maxSteps := 2000000) (disch := omega) only [stp, ← decide_not, vEqz, eqz, vEqa, eqList, eqAtom, H.at, H.load, vBox, vNewSl, vBld, fill, Mx.part, vClear, vCopy, vBtos, source, lenV, V.isSl, Mx.room, slcut, cutOp, mkOp, bounds, natIn, H.kill, beq_self_eq_true, if_pos, if_neg, List.cons_append, List.nil_append, List.append_nil, List.length_cons, List.length_nil, List.length_set, List.take_succ_cons, List.take_zero, List.drop_succ_cons, List.drop_zero, List.take_nil, List.drop_nil, List.all_cons, List.all_nil, ite_self, if_true, if_false, ite_true, ite_false, reduceIte, reduceDIte, eq_self, ne_eq, gt_iff_lt, ge_iff_le, Option.map_some, Option.map_none, Nat.reduceAdd, Nat.reduceMul, Nat.reduceSub, Nat.reduceLT, Nat.reduceLeDiff, Nat.reduceEqDiff, Nat.reduceSucc, Int.reduceAdd, Int.reduceSub, Int.reduceMul, Int.reduceNeg, Int.reduceLT, Int.reduceLE, Int.reduceEq, Int.reduceNe, Int.reduceToNat, Int.reduceTMod, Int.reduceTDiv, Int.reduceFDiv, Int.reducePow, Nat.reduceMod, Nat.reduceAnd, Nat.reduceDiv, Nat.reducePow, L60_2, T0, f55, K55]
  refine abegin (a.new _) (fun h2 a2 fr2 => ?_)
  have fra := (fr_new h own a.lt _).trans fr2
  have T2 := fra.has T
  have T20 := T2.2.2
  unfold fsk at T20
  simp (maxSteps := 2000000) (disch := omega) only [stp, ← decide_not, vEqz, eqz, vEqa, eqList, eqAtom, H.at, H.load, vBox, vNewSl, vBld, fill, Mx.part, vClear, vCopy, vBtos, source, lenV, V.isSl, Mx.room, slcut, cutOp, mkOp, bounds, natIn, H.kill, beq_self_eq_true, if_pos, if_neg, List.cons_append, List.nil_append, List.append_nil, List.length_cons, List.length_nil, List.length_set, List.take_succ_cons, List.take_zero, List.drop_succ_cons, List.drop_zero, List.take_nil, List.drop_nil, List.all_cons, List.all_nil, ite_self, if_true, if_false, ite_true, ite_false, reduceIte, reduceDIte, eq_self, ne_eq, gt_iff_lt, ge_iff_le, Option.map_some, Option.map_none, Nat.reduceAdd, Nat.reduceMul, Nat.reduceSub, Nat.reduceLT, Nat.reduceLeDiff, Nat.reduceEqDiff, Nat.reduceSucc, Int.reduceAdd, Int.reduceSub, Int.reduceMul, Int.reduceNeg, Int.reduceLT, Int.reduceLE, Int.reduceEq, Int.reduceNe, Int.reduceToNat, Int.reduceTMod, Int.reduceTDiv, Int.reduceFDiv, Int.reducePow, Nat.reduceMod, Nat.reduceAnd, Nat.reduceDiv, Nat.reducePow, K60_1, K60, T20]
  refine D h2 own _ a2 (fun h3 own3 a3 fr3 => ?_)
  have T3 := fr3.has T2
  have T30 := T3.2.2
  unfold fsk at T30 ⊢
  simp (maxSteps := 2000000) (disch := omega) only [stp, ← decide_not, vEqz, eqz, vEqa, eqList, eqAtom, H.at, H.load, vBox, vNewSl, vBld, fill, Mx.part, vClear, vCopy, vBtos, source, lenV, V.isSl, Mx.room, slcut, cutOp, mkOp, bounds, natIn, H.kill, beq_self_eq_true, if_pos, if_neg, List.cons_append, List.nil_append, List.append_nil, List.length_cons, List.length_nil, List.length_set, List.take_succ_cons, List.take_zero, List.drop_succ_cons, List.drop_zero, List.take_nil, List.drop_nil, List.all_cons, List.all_nil, ite_self, if_true, if_false, ite_true, ite_false, reduceIte, reduceDIte, eq_self, ne_eq, gt_iff_lt, ge_iff_le, Option.map_some, Option.map_none, Nat.reduceAdd, Nat.reduceMul, Nat.reduceSub, Nat.reduceLT, Nat.reduceLeDiff, Nat.reduceEqDiff, Nat.reduceSucc, Int.reduceAdd, Int.reduceSub, Int.reduceMul, Int.reduceNeg, Int.reduceLT, Int.reduceLE, Int.reduceEq, Int.reduceNe, Int.reduceToNat, Int.reduceTMod, Int.reduceTDiv, Int.reduceFDiv, Int.reducePow, Nat.reduceMod, Nat.reduceAnd, Nat.reduceDiv, Nat.reducePow, K60_1, K60, T30]
  refine atouched1 (a3.put T3.2.1 _) (fun h4 v e4 lv => ?_)
  simp (maxSteps := 2000000) (disch := omega) only [stp, ← decide_not, vEqz, eqz, vEqa, eqList, eqAtom, H.at, H.load, vBox, vNewSl, vBld, fill, Mx.part, vClear, vCopy, vBtos, source, lenV, V.isSl, Mx.room, slcut, cutOp, mkOp, bounds, natIn, H.kill, beq_self_eq_true, if_pos, if_neg, List.cons_append, List.nil_append, List.append_nil, List.length_cons, List.length_nil, List.length_set, List.take_succ_cons, List.take_zero, List.drop_succ_cons, List.drop_zero, List.take_nil, List.drop_nil, List.all_cons, List.all_nil, ite_self, if_true, if_false, ite_true, ite_false, reduceIte, reduceDIte, eq_self, ne_eq, gt_iff_lt, ge_iff_le, Option.map_some, Option.map_none, Nat.reduceAdd, Nat.reduceMul, Nat.reduceSub, Nat.reduceLT, Nat.reduceLeDiff, Nat.reduceEqDiff, Nat.reduceSucc, Int.reduceAdd, Int.reduceSub, Int.reduceMul, Int.reduceNeg, Int.reduceLT, Int.reduceLE, Int.reduceEq, Int.reduceNe, Int.reduceToNat, Int.reduceTMod, Int.reduceTDiv, Int.reduceFDiv, Int.reducePow, Nat.reduceMod, Nat.reduceAnd, Nat.reduceDiv, Nat.reducePow, K60_1, K60, lv]
  have l3 := T3.1
  refine Qg h4 own3 ((a3.put T3.2.1 _).ext e4) (((fr.trans (fra.trans fr3)).put hsl _).trans (e4.fr own3)) ⟨?_, T3.2.1, (e4.2 rt ?_).trans ?_⟩
  · have := e4.1
    simp (maxSteps := 2000000) (disch := omega) only [stp, ← decide_not, vEqz, eqz, vEqa, eqList, eqAtom, H.at, H.load, vBox, vNewSl, vBld, fill, Mx.part, vClear, vCopy, vBtos, source, lenV, V.isSl, Mx.room, slcut, cutOp, mkOp, bounds, natIn, H.kill, beq_self_eq_true, if_pos, if_neg, List.cons_append, List.nil_append, List.append_nil, List.length_cons, List.length_nil, List.length_set, List.take_succ_cons, List.take_zero, List.drop_succ_cons, List.drop_zero, List.take_nil, List.drop_nil, List.all_cons, List.all_nil, ite_self, if_true, if_false, ite_true, ite_false, reduceIte, reduceDIte, eq_self, ne_eq, gt_iff_lt, ge_iff_le, Option.map_some, Option.map_none, Nat.reduceAdd, Nat.reduceMul, Nat.reduceSub, Nat.reduceLT, Nat.reduceLeDiff, Nat.reduceEqDiff, Nat.reduceSucc, Int.reduceAdd, Int.reduceSub, Int.reduceMul, Int.reduceNeg, Int.reduceLT, Int.reduceLE, Int.reduceEq, Int.reduceNe, Int.reduceToNat, Int.reduceTMod, Int.reduceTDiv, Int.reduceFDiv, Int.reducePow, Nat.reduceMod, Nat.reduceAnd, Nat.reduceDiv, Nat.reducePow, ] at this
    omega
  · simp (maxSteps := 2000000) (disch := omega) only [stp, ← decide_not, vEqz, eqz, vEqa, eqList, eqAtom, H.at, H.load, vBox, vNewSl, vBld, fill, Mx.part, vClear, vCopy, vBtos, source, lenV, V.isSl, Mx.room, slcut, cutOp, mkOp, bounds, natIn, H.kill, beq_self_eq_true, if_pos, if_neg, List.cons_append, List.nil_append, List.append_nil, List.length_cons, List.length_nil, List.length_set, List.take_succ_cons, List.take_zero, List.drop_succ_cons, List.drop_zero, List.take_nil, List.drop_nil, List.all_cons, List.all_nil, ite_self, if_true, if_false, ite_true, ite_false, reduceIte, reduceDIte, eq_self, ne_eq, gt_iff_lt, ge_iff_le, Option.map_some, Option.map_none, Nat.reduceAdd, Nat.reduceMul, Nat.reduceSub, Nat.reduceLT, Nat.reduceLeDiff, Nat.reduceEqDiff, Nat.reduceSucc, Int.reduceAdd, Int.reduceSub, Int.reduceMul, Int.reduceNeg, Int.reduceLT, Int.reduceLE, Int.reduceEq, Int.reduceNe, Int.reduceToNat, Int.reduceTMod, Int.reduceTDiv, Int.reduceFDiv, Int.reducePow, Nat.reduceMod, Nat.reduceAnd, Nat.reduceDiv, Nat.reducePow, ]
    exact l3
  · simp (maxSteps := 2000000) (disch := omega) only [stp, ← decide_not, vEqz, eqz, vEqa, eqList, eqAtom, H.at, H.load, vBox, vNewSl, vBld, fill, Mx.part, vClear, vCopy, vBtos, source, lenV, V.isSl, Mx.room, slcut, cutOp, mkOp, bounds, natIn, H.kill, beq_self_eq_true, if_pos, if_neg, List.cons_append, List.nil_append, List.append_nil, List.length_cons, List.length_nil, List.length_set, List.take_succ_cons, List.take_zero, List.drop_succ_cons, List.drop_zero, List.take_nil, List.drop_nil, List.all_cons, List.all_nil, ite_self, if_true, if_false, ite_true, ite_false, reduceIte, reduceDIte, eq_self, ne_eq, gt_iff_lt, ge_iff_le, Option.map_some, Option.map_none, Nat.reduceAdd, Nat.reduceMul, Nat.reduceSub, Nat.reduceLT, Nat.reduceLeDiff, Nat.reduceEqDiff, Nat.reduceSucc, Int.reduceAdd, Int.reduceSub, Int.reduceMul, Int.reduceNeg, Int.reduceLT, Int.reduceLE, Int.reduceEq, Int.reduceNe, Int.reduceToNat, Int.reduceTMod, Int.reduceTDiv, Int.reduceFDiv, Int.reducePow, Nat.reduceMod, Nat.reduceAnd, Nat.reduceDiv, Nat.reducePow, ]
    rfl
theorem fit {hs h : H} {owns own : Nat → Prop} {ra n : Nat} {f f' : Nat → Int} {ts : List Int} {st c : Int} (a : Ar h ra n f ts st own) (fr : Fr hs owns h own) {rt : Nat} (hsl : hs.nx ≤ rt) {b p t w0 w1 w2 at_ v0 v1 v2 at' : Int} {e' : Bool}
    (T : Has h own rt ⟨false, fsk b p t w0 w1 w2 at_ false⟩) (hd : at_ ≠ 5) (D : FDoes ra n (fsk b p t w0 w1 w2 at_ false) (fsk b p t v0 v1 v2 at' e') f f' c st) (k k' : Int) (hk : 0 ≤ k ∧ k < 40) (hk' : k + 1 = k')
    {q : Hid (V → H → Prop)} (Qg : ∀ h' own', Ar h' ra n f' [c] st own' → Fr hs owns h' own' → Has h' own' rt ⟨false, fsk b p t v0 v1 v2 at' e'⟩ → @W60_2 (.p (some (ra, 0))) (.p (some (rt, 0))) (.i .i64 k') h' q) :
    @W60_2 (.p (some (ra, 0))) (.p (some (rt, 0))) (.i .i64 k) h q := by
  subst hk'
  rw [W60_2_eq]
  exact fiter a fr hsl T hd D k hk Qg
theorem fitend {hs h : H} {owns own : Nat → Prop} {ra n : Nat} {f : Nat → Int} {ts : List Int} {st : Int} (a : Ar h ra n f ts st own) (fr : Fr hs owns h own) {rt : Nat} (hsl : hs.nx ≤ rt) {b p t w0 w1 w2 at_ : Int} {empty : Bool}
    (T : Has h own rt ⟨false, fsk b p t w0 w1 w2 at_ empty⟩) (hd : empty = false ∧ at_ = 5 ∨ empty = true) (k : Int) (hk : 0 ≤ k ∧ k < 40)
    {Q : V → H → Prop} (Qg : ∀ h', Ar h' ra n f ts st own → Fr hs owns h' own → Q (.tup [.agg (fsk b p t w0 w1 w2 at_ empty), .i .i64 k]) h') :
    @W60_2 (.p (some (ra, 0))) (.p (some (rt, 0))) (.i .i64 k) h ⟨Q⟩ := by
  rw [W60_2_eq]
  have T0 := T.2.2
  have l0 := T.1
  have fr2 := fr.trans (fr_new h own a.lt ⟨false, fsk b p t w0 w1 w2 at_ empty⟩)
  have a2 := a.new ⟨false, fsk b p t w0 w1 w2 at_ empty⟩
  unfold fsk at *
  rcases hd with ⟨rfl, rfl⟩ | rfl <;>
  · simp (maxSteps := 2000000) (disch := omega) only [stp, ← decide_not, vEqz, eqz, vEqa, eqList, eqAtom, H.at, H.load, vBox, vNewSl, vBld, fill, Mx.part, vClear, vCopy, vBtos, source, lenV, V.isSl, Mx.room, slcut, cutOp, mkOp, bounds, natIn, H.kill, beq_self_eq_true, if_pos, if_neg, List.cons_append, List.nil_append, List.append_nil, List.length_cons, List.length_nil, List.length_set, List.take_succ_cons, List.take_zero, List.drop_succ_cons, List.drop_zero, List.take_nil, List.drop_nil, List.all_cons, List.all_nil, ite_self, if_true, if_false, ite_true, ite_false, reduceIte, reduceDIte, eq_self, ne_eq, gt_iff_lt, ge_iff_le, Option.map_some, Option.map_none, Nat.reduceAdd, Nat.reduceMul, Nat.reduceSub, Nat.reduceLT, Nat.reduceLeDiff, Nat.reduceEqDiff, Nat.reduceSucc, Int.reduceAdd, Int.reduceSub, Int.reduceMul, Int.reduceNeg, Int.reduceLT, Int.reduceLE, Int.reduceEq, Int.reduceNe, Int.reduceToNat, Int.reduceTMod, Int.reduceTDiv, Int.reduceFDiv, Int.reducePow, Nat.reduceMod, Nat.reduceAnd, Nat.reduceDiv, Nat.reducePow, L60_2, T0, f55, K55]
    exact Qg _ (a2.put T.2.1 _) (fr2.put hsl _)
theorem frun_start {h : H} {ra n : Nat} {f : Nat → Int} {ts : List Int} {st : Int} {own : Nat → Prop} (a : Ar h ra n f ts st own) {b p t w0 w1 w2 at_ : Int} {empty : Bool} {Q : V → H → Prop}
    (q : ∀ h1, Ar h1 ra n f ts st own → Fr h own h1 own → Has h1 own (h.nx + 1) ⟨false, fsk b p t w0 w1 w2 at_ empty⟩ → @W60_2 (.p (some (ra, 0))) (.p (some (h.nx + 1, 0))) (.i .i64 0) h1 ⟨Q⟩) :
    @wF IP 60 [.p (some (ra, 0)), .agg (fsk b p t w0 w1 w2 at_ empty)] h ⟨Q⟩ := by
  have no : ¬ own (h.nx + 1) := fun ho => by have := a.lt _ ho; omega
  have q' := q _ (((a.new ⟨false, fsk b p t w0 w1 w2 at_ empty⟩).new ⟨false, [.i .i64 0, .i .i64 0, .i .u64 0, .i .u64 0, .i .u64 0, .i .u64 0, .i .i64 0, .b false]⟩).put no (some ⟨false, fsk b p t w0 w1 w2 at_ empty⟩))
    ((((ext_new h _).trans (ext_new _ _)).fr own).put (by omega) _) ⟨by simp (maxSteps := 2000000) (disch := omega) only [stp, ← decide_not, vEqz, eqz, vEqa, eqList, eqAtom, H.at, H.load, vBox, vNewSl, vBld, fill, Mx.part, vClear, vCopy, vBtos, source, lenV, V.isSl, Mx.room, slcut, cutOp, mkOp, bounds, natIn, H.kill, beq_self_eq_true, if_pos, if_neg, List.cons_append, List.nil_append, List.append_nil, List.length_cons, List.length_nil, List.length_set, List.take_succ_cons, List.take_zero, List.drop_succ_cons, List.drop_zero, List.take_nil, List.drop_nil, List.all_cons, List.all_nil, ite_self, if_true, if_false, ite_true, ite_false, reduceIte, reduceDIte, eq_self, ne_eq, gt_iff_lt, ge_iff_le, Option.map_some, Option.map_none, Nat.reduceAdd, Nat.reduceMul, Nat.reduceSub, Nat.reduceLT, Nat.reduceLeDiff, Nat.reduceEqDiff, Nat.reduceSucc, Int.reduceAdd, Int.reduceSub, Int.reduceMul, Int.reduceNeg, Int.reduceLT, Int.reduceLE, Int.reduceEq, Int.reduceNe, Int.reduceToNat, Int.reduceTMod, Int.reduceTDiv, Int.reduceFDiv, Int.reducePow, Nat.reduceMod, Nat.reduceAnd, Nat.reduceDiv, Nat.reducePow, ]; omega, no, by simp (maxSteps := 2000000) (disch := omega) only [stp, ← decide_not, vEqz, eqz, vEqa, eqList, eqAtom, H.at, H.load, vBox, vNewSl, vBld, fill, Mx.part, vClear, vCopy, vBtos, source, lenV, V.isSl, Mx.room, slcut, cutOp, mkOp, bounds, natIn, H.kill, beq_self_eq_true, if_pos, if_neg, List.cons_append, List.nil_append, List.append_nil, List.length_cons, List.length_nil, List.length_set, List.take_succ_cons, List.take_zero, List.drop_succ_cons, List.drop_zero, List.take_nil, List.drop_nil, List.all_cons, List.all_nil, ite_self, if_true, if_false, ite_true, ite_false, reduceIte, reduceDIte, eq_self, ne_eq, gt_iff_lt, ge_iff_le, Option.map_some, Option.map_none, Nat.reduceAdd, Nat.reduceMul, Nat.reduceSub, Nat.reduceLT, Nat.reduceLeDiff, Nat.reduceEqDiff, Nat.reduceSucc, Int.reduceAdd, Int.reduceSub, Int.reduceMul, Int.reduceNeg, Int.reduceLT, Int.reduceLE, Int.reduceEq, Int.reduceNe, Int.reduceToNat, Int.reduceTMod, Int.reduceTDiv, Int.reduceFDiv, Int.reducePow, Nat.reduceMod, Nat.reduceAnd, Nat.reduceDiv, Nat.reducePow, ]⟩
  unfold fsk at *
  simp (maxSteps := 2000000) (disch := omega) only [stp, ← decide_not, vEqz, eqz, vEqa, eqList, eqAtom, H.at, H.load, vBox, vNewSl, vBld, fill, Mx.part, vClear, vCopy, vBtos, source, lenV, V.isSl, Mx.room, slcut, cutOp, mkOp, bounds, natIn, H.kill, beq_self_eq_true, if_pos, if_neg, List.cons_append, List.nil_append, List.append_nil, List.length_cons, List.length_nil, List.length_set, List.take_succ_cons, List.take_zero, List.drop_succ_cons, List.drop_zero, List.take_nil, List.drop_nil, List.all_cons, List.all_nil, ite_self, if_true, if_false, ite_true, ite_false, reduceIte, reduceDIte, eq_self, ne_eq, gt_iff_lt, ge_iff_le, Option.map_some, Option.map_none, Nat.reduceAdd, Nat.reduceMul, Nat.reduceSub, Nat.reduceLT, Nat.reduceLeDiff, Nat.reduceEqDiff, Nat.reduceSucc, Int.reduceAdd, Int.reduceSub, Int.reduceMul, Int.reduceNeg, Int.reduceLT, Int.reduceLE, Int.reduceEq, Int.reduceNe, Int.reduceToNat, Int.reduceTMod, Int.reduceTDiv, Int.reduceFDiv, Int.reducePow, Nat.reduceMod, Nat.reduceAnd, Nat.reduceDiv, Nat.reducePow, f60, K60_1, K60]
  exact q'
/-- a fetching alone: its turn is there -/
theorem run_fetch {h : H} {ra n : Nat} {f : Nat → Int} {ts : List Int} {st : Int} {own : Nat → Prop} (a : Ar h ra n f ts st own) {b p t : Int} (hp : isP p) (hb : 0 ≤ b) (hc : b + 1 + 4 * p ≤ n) (ht : 0 ≤ t ∧ t < 18446744073709551000) (hf : f (pl b p t).toNat = t + 1) {Q : V → H → Prop}
    (q : ∀ h' own', Ar h' ra n (fset f (pl b p t).toNat (t + p)) [pl b p t] st own' → Fr h own h' own' → Q (.tup [.agg (fsk b p t (f (pl b p t + 1 + 0).toNat) (f (pl b p t + 1 + 1).toNat) (f (pl b p t + 1 + 2).toNat) 5 false), .i .i64 5]) h') :
    @wF IP 60 [.p (some (ra, 0)), .agg (fsk b p t 0 0 0 0 false)] h ⟨Q⟩ := by
  refine frun_start a (fun h1 a1 fr1 T1 => ?_)
  have D : FDoes ra n (fsk b p t 0 0 0 0 false) (fsk b p t 0 0 0 1 false) f f (pl b p t) st := fun h own Q a q => f_stand a hp hb hc (by omega) (by rw [if_pos hf]; exact q)
  refine fit a1 fr1 (by omega) T1 (by omega) D 0 1 (by omega) rfl (fun h2 own2 a2 fr2 T2 => ?_)
  refine fit a2 fr2 (by omega) T2 (by omega) (fun h own Q a q => f_d0 a hp hb hc (by omega) q) 1 2 (by omega) rfl (fun h3 own3 a3 fr3 T3 => ?_)
  refine fit a3 fr3 (by omega) T3 (by omega) (fun h own Q a q => f_d1 a hp hb hc (by omega) q) 2 3 (by omega) rfl (fun h4 own4 a4 fr4 T4 => ?_)
  refine fit a4 fr4 (by omega) T4 (by omega) (fun h own Q a q => f_d2 a hp hb hc (by omega) q) 3 4 (by omega) rfl (fun h5 own5 a5 fr5 T5 => ?_)
  refine fit a5 fr5 (by omega) T5 (by omega) (fun h own Q a q => f_leave a hp hb hc ht q) 4 5 (by omega) rfl (fun h6 own6 a6 fr6 T6 => ?_)
  exact fitend a6 fr6 (by omega) T6 (.inl ⟨rfl, rfl⟩) 5 (by omega) (fun h7 a7 fr7 => q h7 own6 a7 fr7)
/-- its turn is not there -/
theorem run_fetch_empty {h : H} {ra n : Nat} {f : Nat → Int} {ts : List Int} {st : Int} {own : Nat → Prop} (a : Ar h ra n f ts st own) {b p t : Int} (hp : isP p) (hb : 0 ≤ b) (hc : b + 1 + 4 * p ≤ n) (ht : 0 ≤ t ∧ t < 18446744073709551000) (hf : f (pl b p t).toNat ≠ t + 1) {Q : V → H → Prop}
    (q : ∀ h' own', Ar h' ra n f [pl b p t] st own' → Fr h own h' own' → Q (.tup [.agg (fsk b p t 0 0 0 0 true), .i .i64 1]) h') :
    @wF IP 60 [.p (some (ra, 0)), .agg (fsk b p t 0 0 0 0 false)] h ⟨Q⟩ := by
  refine frun_start a (fun h1 a1 fr1 T1 => ?_)
  have D : FDoes ra n (fsk b p t 0 0 0 0 false) (fsk b p t 0 0 0 0 true) f f (pl b p t) st := fun h own Q a q => f_stand a hp hb hc (by omega) (by rw [if_neg hf]; exact q)
  refine fit a1 fr1 (by omega) T1 (by omega) D 0 1 (by omega) rfl (fun h2 own2 a2 fr2 T2 => ?_)
  exact fitend a2 fr2 (by omega) T2 (.inr rfl) 1 (by omega) (fun h3 a3 fr3 => q h3 own2 a3 fr3)
/-! ### the plain law: many who send, one who fetches -/
def upd {α : Type} (g : Nat → α) (s : Nat) (v : α) : Nat → α := fun j => if j = s then v else g j
theorem upd_at {α : Type} (g : Nat → α) (s : Nat) (v : α) : upd g s v s = v := by unfold upd; rw [if_pos rfl]
theorem upd_ne {α : Type} (g : Nat → α) {s j : Nat} (v : α) (h : j ≠ s) : upd g s v j = g j := by unfold upd; rw [if_neg h]
def cnt (s : Nat) : List (Nat × Nat) → Nat
  | [] => 0
  | e :: l => (if e.1 = s then 1 else 0) + cnt s l
theorem cnt_app (s : Nat) : ∀ (l r : List (Nat × Nat)), cnt s (l ++ r) = cnt s l + cnt s r
  | [], r => by simp [cnt]
  | e :: l, r => by simp only [List.cons_append, cnt, cnt_app s l r]; omega
def Dt (f : Nat → Int) (x : Int) (s c : Nat) (n : Int) : Prop := (1 ≤ n → f (pl 0 2 x + 1 + 0).toNat = s) ∧ (2 ≤ n → f (pl 0 2 x + 1 + 1).toNat = c) ∧ (3 ≤ n → f (pl 0 2 x + 1 + 2).toNat = s + 10 * c)
structure Iv (k : Nat) (f : Nat → Int) (sn se : Nat → Nat) (tt at_ : Nat → Int) (hd fa a0 a1 a2 : Int) (Q : List (Nat × Nat)) : Prop where
  h0 : 0 ≤ hd
  len : Q.length ≤ 2
  tail : f 0 = hd + Q.length
  free : ∀ x : Int, hd + Q.length ≤ x → x < hd + 2 → f (pl 0 2 x).toNat = x
  item : ∀ (j s c : Nat), Q[j]? = some (s, c) → s < k ∧ c = se s + cnt s (Q.take j) ∧ (f (pl 0 2 (hd + j)).toNat = hd + j + 1 ∧ Dt f (hd + j) s c 3 ∨ f (pl 0 2 (hd + j)).toNat = hd + j ∧ tt s = hd + j ∧ 3 ≤ at_ s ∧ c = sn s ∧ Dt f (hd + j) s c (at_ s - 3))
  st : ∀ s, s < k → 0 ≤ at_ s ∧ at_ s ≤ 6 ∧ 0 ≤ tt s ∧ tt s ≤ hd + Q.length ∧ (at_ s = 2 → tt s < hd + Q.length ∨ Q.length < 2) ∧ (3 ≤ at_ s → ∃ j : Nat, Q[j]? = some (s, sn s) ∧ tt s = hd + j ∧ f (pl 0 2 (tt s)).toNat = tt s)
  ord : ∀ s, s < k → (se s + cnt s Q : Int) = sn s + (if 3 ≤ at_ s then 1 else 0)
  fet : 0 ≤ fa ∧ fa ≤ 4 ∧ (1 ≤ fa → f (pl 0 2 hd).toNat = hd + 1) ∧ (2 ≤ fa → a0 = f (pl 0 2 hd + 1 + 0).toNat) ∧ (3 ≤ fa → a1 = f (pl 0 2 hd + 1 + 1).toNat) ∧ (4 ≤ fa → a2 = f (pl 0 2 hd + 1 + 2).toNat)
theorem pl2 (x : Int) : pl 0 2 x = 1 + x % 2 * 4 := by unfold pl; omega
theorem fset_out (f : Nat → Int) {x : Int} (w : Int) (y : Int) (hx : 0 ≤ x) (hy0 : 0 ≤ y) (hy : y ≠ x) : fset f x.toNat w y.toNat = f y.toNat := by
  unfold fset; rw [if_neg (by omega)]
theorem fset_at (f : Nat → Int) (x : Nat) (w : Int) : fset f x w x = w := by
  unfold fset; rw [if_pos rfl]
theorem Dt.of {f g : Nat → Int} {x : Int} {s c : Nat} {n : Int} (d : Dt f x s c n) (h0 : g (pl 0 2 x + 1 + 0).toNat = f (pl 0 2 x + 1 + 0).toNat) (h1 : g (pl 0 2 x + 1 + 1).toNat = f (pl 0 2 x + 1 + 1).toNat) (h2 : g (pl 0 2 x + 1 + 2).toNat = f (pl 0 2 x + 1 + 2).toNat) : Dt g x s c n := by
  unfold Dt at *
  rw [h0, h1, h2]
  exact d
section
variable {k : Nat} {f : Nat → Int} {sn se : Nat → Nat} {tt at_ : Nat → Int} {hd fa a0 a1 a2 : Int} {Q : List (Nat × Nat)}
theorem Iv.lt (_ : Iv k f sn se tt at_ hd fa a0 a1 a2 Q) {j s c : Nat} (h : Q[j]? = some (s, c)) : j < Q.length := (List.getElem?_eq_some_iff.1 h).1
/-- one who sends does a step that changes nothing -/
theorem iv_soft (v : Iv k f sn se tt at_ hd fa a0 a1 a2 Q) {s : Nat} (ho : at_ s ≤ 2) {t' a' : Int} (h1 : 0 ≤ a' ∧ a' ≤ 2) (h2 : 0 ≤ t' ∧ t' ≤ hd + Q.length) (h3 : a' = 2 → t' < hd + Q.length ∨ Q.length < 2) : Iv k f sn se (upd tt s t') (upd at_ s a') hd fa a0 a1 a2 Q := by
  refine ⟨v.h0, v.len, v.tail, v.free, fun j s' c hj => ?_, fun s' hs' => ?_, fun s' hs' => ?_, v.fet⟩
  · obtain ⟨i1, i2, i3⟩ := v.item j s' c hj
    refine ⟨i1, i2, ?_⟩
    rcases i3 with i3 | ⟨e1, e2, e3, e4, e5⟩
    · exact .inl i3
    · have hne : s' ≠ s := by rintro rfl; omega
      rw [upd_ne _ _ hne, upd_ne _ _ hne]
      exact .inr ⟨e1, e2, e3, e4, e5⟩
  · by_cases hne : s' = s
    · subst hne
      rw [upd_at, upd_at]
      exact ⟨by omega, by omega, by omega, by omega, h3, fun h => by omega⟩
    · rw [upd_ne _ _ hne, upd_ne _ _ hne]
      exact v.st s' hs'
  · have := v.ord s' hs'
    by_cases hne : s' = s
    · subst hne
      rw [upd_at, if_neg (by omega)]
      rw [if_neg (by omega)] at this
      exact this
    · rw [upd_ne _ _ hne]
      exact this
/-- a turn is claimed -/
theorem iv_claim (v : Iv k f sn se tt at_ hd fa a0 a1 a2 Q) {s : Nat} (hs : s < k) (ho : at_ s = 2) (hf : f 0 = tt s) : Iv k (fset f (Int.toNat 0) (tt s + 1)) sn se tt (upd at_ s 3) hd fa a0 a1 a2 (Q ++ [(s, sn s)]) := by
  obtain ⟨_, _, _, _, hl, _⟩ := v.st s hs
  have ht := v.tail
  have hlen := v.len
  have h0 := v.h0
  have hq : Q.length < 2 := by rcases hl ho with h | h <;> omega
  have ef : ∀ y : Int, 1 ≤ y → fset f (Int.toNat 0) (tt s + 1) y.toNat = f y.toNat := fun y hy => fset_out f (x := 0) _ y (by omega) (by omega) (by omega)
  have el : (Q ++ [(s, sn s)]).length = Q.length + 1 := by simp
  refine ⟨h0, by omega, ?_, fun x h1 h2 => ?_, fun j s' c hj => ?_, fun s' hs' => ?_, fun s' hs' => ?_, ?_⟩
  · rw [el]
    show fset f 0 _ 0 = _
    rw [fset_at]
    omega
  · rw [el] at h1
    rw [ef _ (by rw [pl2]; omega)]
    exact v.free x (by omega) h2
  · rcases Nat.lt_or_ge j Q.length with hlt | hge
    · rw [List.getElem?_append_left hlt] at hj
      rw [List.take_append_of_le_length (by omega)]
      obtain ⟨i1, i2, i3⟩ := v.item j s' c hj
      refine ⟨i1, i2, ?_⟩
      rw [ef _ (by rw [pl2]; omega)]
      rcases i3 with ⟨e1, e2⟩ | ⟨e1, e2, e3, e4, e5⟩
      · exact .inl ⟨e1, e2.of (ef _ (by rw [pl2]; omega)) (ef _ (by rw [pl2]; omega)) (ef _ (by rw [pl2]; omega))⟩
      · have hne : s' ≠ s := by rintro rfl; omega
        rw [upd_ne _ _ hne]
        exact .inr ⟨e1, e2, e3, e4, e5.of (ef _ (by rw [pl2]; omega)) (ef _ (by rw [pl2]; omega)) (ef _ (by rw [pl2]; omega))⟩
    · rw [List.getElem?_append_right hge] at hj
      have hj0 : j = Q.length := by
        rcases Nat.eq_or_lt_of_le hge with h | h
        · exact h.symm
        · rw [List.getElem?_eq_none (by rw [List.length_singleton]; omega)] at hj
          cases hj
      subst hj0
      rw [Nat.sub_self] at hj
      cases hj
      have ho2 := v.ord s hs
      rw [if_neg (by omega)] at ho2
      refine ⟨hs, ?_, .inr ?_⟩
      · rw [List.take_append_of_le_length (by omega), List.take_length]
        omega
      · rw [ef _ (by rw [pl2]; omega), upd_at]
        exact ⟨v.free _ (by omega) (by omega), by omega, by omega, rfl, fun h => by omega, fun h => by omega, fun h => by omega⟩
  · by_cases hne : s' = s
    · subst hne
      rw [upd_at, el]
      refine ⟨by omega, by omega, by omega, by omega, fun h => by omega, fun _ => ⟨Q.length, ?_, by omega, ?_⟩⟩
      · rw [List.getElem?_append_right (Nat.le_refl _), Nat.sub_self]
        rfl
      · rw [ef _ (by rw [pl2]; omega)]
        exact v.free _ (by omega) (by omega)
    · rw [upd_ne _ _ hne, el]
      obtain ⟨b1, b2, b3, b4, b5, b6⟩ := v.st s' hs'
      refine ⟨b1, b2, b3, by omega, fun h => .inl (by omega), fun h => ?_⟩
      obtain ⟨j, c1, c2, c3⟩ := b6 h
      exact ⟨j, by rw [List.getElem?_append_left (v.lt c1)]; exact c1, c2, by rw [ef _ (by rw [pl2]; omega)]; exact c3⟩
  · have := v.ord s' hs'
    rw [cnt_app]
    by_cases hne : s' = s
    · subst hne
      rw [upd_at, if_pos (by omega)]
      rw [if_neg (by omega)] at this
      simp only [cnt, if_true]
      omega
    · rw [upd_ne _ _ hne]
      simp only [cnt, if_neg (Ne.symm hne)]
      omega
  · obtain ⟨b1, b2, b3, b4, b5, b6⟩ := v.fet
    rw [ef _ (by rw [pl2]; omega), ef _ (by rw [pl2]; omega), ef _ (by rw [pl2]; omega), ef _ (by rw [pl2]; omega)]
    exact ⟨b1, b2, b3, b4, b5, b6⟩
end
section
variable {k : Nat} {f : Nat → Int} {sn se : Nat → Nat} {tt at_ : Nat → Int} {hd fa a0 a1 a2 : Int} {Q : List (Nat × Nat)}
theorem iv_stand (v : Iv k f sn se tt at_ hd fa a0 a1 a2 Q) {s : Nat} (hs : s < k) (hm : f (pl 0 2 (tt s)).toNat = tt s) : tt s < hd + Q.length ∨ Q.length < 2 := by
  obtain ⟨_, _, b3, b4, _, _⟩ := v.st s hs
  have hlen := v.len
  have h0 := v.h0
  rcases Nat.lt_or_ge Q.length 2 with h | h
  · exact .inr h
  · rcases Int.lt_or_le (tt s) (hd + Q.length) with h1 | h1
    · exact .inl h1
    · exfalso
      have ht : tt s = hd + 2 := by omega
      obtain ⟨e, he⟩ : ∃ e, Q[0]? = some e := ⟨_, List.getElem?_eq_getElem (by omega)⟩
      obtain ⟨_, _, i3⟩ := v.item 0 e.1 e.2 he
      have hp : pl 0 2 (tt s) = pl 0 2 (hd + (0 : Nat)) := by rw [pl2, pl2]; omega
      rw [hp] at hm
      rcases i3 with ⟨e1, _⟩ | ⟨e1, _⟩ <;> omega
theorem iv_data (v : Iv k f sn se tt at_ hd fa a0 a1 a2 Q) {s : Nat} (hs : s < k) {i w : Int} (hi : 0 ≤ i ∧ i ≤ 2) (ho : at_ s = 3 + i) (hw : (i = 0 → w = s) ∧ (i = 1 → w = sn s) ∧ (i = 2 → w = s + 10 * sn s)) : Iv k (fset f (pl 0 2 (tt s) + 1 + i).toNat w) sn se tt (upd at_ s (4 + i)) hd fa a0 a1 a2 Q := by
  obtain ⟨_, _, b3, b4, _, b6⟩ := v.st s hs
  obtain ⟨j0, c1, c2, c3⟩ := b6 (by omega)
  have hj0 := v.lt c1
  have hlen := v.len
  have h0 := v.h0
  have hp := pl2 (tt s)
  have ef : ∀ y : Int, 0 ≤ y → y ≠ pl 0 2 (tt s) + 1 + i → fset f (pl 0 2 (tt s) + 1 + i).toNat w y.toNat = f y.toNat := fun y hy hne => fset_out f w y (by omega) hy hne
  have eq : ∀ x : Int, fset f (pl 0 2 (tt s) + 1 + i).toNat w (pl 0 2 x).toNat = f (pl 0 2 x).toNat := fun x => ef _ (by rw [pl2]; omega) (by rw [pl2, pl2]; omega)
  refine ⟨h0, hlen, ?_, fun x h1 h2 => ?_, fun j s' c hj => ?_, fun s' hs' => ?_, fun s' hs' => ?_, ?_⟩
  · have := ef 0 (by omega) (by omega)
    exact (show fset f _ w 0 = f 0 from this).trans v.tail
  · rw [eq]; exact v.free x h1 h2
  · obtain ⟨i1, i2, i3⟩ := v.item j s' c hj
    have hj1 := v.lt hj
    refine ⟨i1, i2, ?_⟩
    rw [eq]
    by_cases hjj : j = j0
    · subst hjj
      rw [c1] at hj
      cases hj
      rcases i3 with ⟨e1, _⟩ | ⟨e1, e2, e3, e4, e5⟩
      · rw [← c2] at e1; omega
      · refine .inr ⟨e1, e2, ?_, e4, ?_⟩
        · rw [upd_at]; omega
        · rw [upd_at]
          rw [← c2] at e5 ⊢
          obtain ⟨d0, d1, d2⟩ := e5
          refine ⟨fun h => ?_, fun h => ?_, fun h => ?_⟩
          · by_cases hi0 : i = 0
            · subst hi0; rw [fset_at]; exact hw.1 rfl
            · rw [ef _ (by omega) (by omega)]; exact d0 (by omega)
          · by_cases hi0 : i = 1
            · subst hi0; rw [fset_at]; exact hw.2.1 rfl
            · rw [ef _ (by omega) (by omega)]; exact d1 (by omega)
          · by_cases hi0 : i = 2
            · subst hi0; rw [fset_at]; exact hw.2.2 rfl
            · omega
    · have hpar := pl2 (hd + j)
      have ed : ∀ z : Int, 0 ≤ z ∧ z ≤ 2 → fset f (pl 0 2 (tt s) + 1 + i).toNat w (pl 0 2 (hd + j) + 1 + z).toNat = f (pl 0 2 (hd + j) + 1 + z).toNat := fun z hz => ef _ (by omega) (by omega)
      rcases i3 with ⟨e1, e2⟩ | ⟨e1, e2, e3, e4, e5⟩
      · exact .inl ⟨e1, e2.of (ed 0 (by omega)) (ed 1 (by omega)) (ed 2 (by omega))⟩
      · have hne : s' ≠ s := by rintro rfl; omega
        rw [upd_ne _ _ hne]
        exact .inr ⟨e1, e2, e3, e4, e5.of (ed 0 (by omega)) (ed 1 (by omega)) (ed 2 (by omega))⟩
  · by_cases hne : s' = s
    · subst hne
      rw [upd_at]
      exact ⟨by omega, by omega, b3, b4, fun h => by omega, fun _ => ⟨j0, c1, c2, by rw [eq]; exact c3⟩⟩
    · rw [upd_ne _ _ hne]
      obtain ⟨d1, d2, d3, d4, d5, d6⟩ := v.st s' hs'
      refine ⟨d1, d2, d3, d4, d5, fun h => ?_⟩
      obtain ⟨j, g1, g2, g3⟩ := d6 h
      exact ⟨j, g1, g2, by rw [eq]; exact g3⟩
  · have := v.ord s' hs'
    by_cases hne : s' = s
    · subst hne
      rw [upd_at, if_pos (by omega)]
      rw [if_pos (by omega)] at this
      exact this
    · rw [upd_ne _ _ hne]
      exact this
  · obtain ⟨d1, d2, d3, d4, d5, d6⟩ := v.fet
    rw [eq]
    refine ⟨d1, d2, d3, ?_⟩
    by_cases hfa : 1 ≤ fa
    · have e1 := d3 hfa
      have hne : tt s ≠ hd := by
        intro e
        rw [e] at c3
        omega
      have hpar := pl2 hd
      have ed : ∀ z : Int, 0 ≤ z ∧ z ≤ 2 → fset f (pl 0 2 (tt s) + 1 + i).toNat w (pl 0 2 hd + 1 + z).toNat = f (pl 0 2 hd + 1 + z).toNat := fun z hz => ef _ (by omega) (by omega)
      rw [ed 0 (by omega), ed 1 (by omega), ed 2 (by omega)]
      exact ⟨d4, d5, d6⟩
    · exact ⟨fun h => by omega, fun h => by omega, fun h => by omega⟩
theorem iv_last (v : Iv k f sn se tt at_ hd fa a0 a1 a2 Q) {s : Nat} (hs : s < k) (ho : at_ s = 6) : Iv k (fset f (pl 0 2 (tt s)).toNat (tt s + 1)) (upd sn s (sn s + 1)) se (upd tt s 0) (upd at_ s 0) hd fa a0 a1 a2 Q := by
  obtain ⟨_, _, b3, b4, _, b6⟩ := v.st s hs
  obtain ⟨j0, c1, c2, c3⟩ := b6 (by omega)
  have hj0 := v.lt c1
  have hlen := v.len
  have h0 := v.h0
  have hp := pl2 (tt s)
  have ef : ∀ y : Int, 0 ≤ y → y ≠ pl 0 2 (tt s) → fset f (pl 0 2 (tt s)).toNat (tt s + 1) y.toNat = f y.toNat := fun y hy hne => fset_out f _ y (by omega) hy hne
  have ed : ∀ x z : Int, 0 ≤ z ∧ z ≤ 2 → fset f (pl 0 2 (tt s)).toNat (tt s + 1) (pl 0 2 x + 1 + z).toNat = f (pl 0 2 x + 1 + z).toNat := fun x z hz => ef _ (by rw [pl2]; omega) (by rw [pl2, pl2]; omega)
  have eq : ∀ x : Int, hd ≤ x → x < hd + 2 → x ≠ tt s → fset f (pl 0 2 (tt s)).toNat (tt s + 1) (pl 0 2 x).toNat = f (pl 0 2 x).toNat := fun x h1 h2 h3 => ef _ (by rw [pl2]; omega) (by rw [pl2, pl2]; omega)
  refine ⟨h0, hlen, ?_, fun x h1 h2 => ?_, fun j s' c hj => ?_, fun s' hs' => ?_, fun s' hs' => ?_, ?_⟩
  · have := ef 0 (by omega) (by omega)
    exact (show fset f _ (tt s + 1) 0 = f 0 from this).trans v.tail
  · rw [eq x (by omega) h2 (by omega)]; exact v.free x h1 h2
  · obtain ⟨i1, i2, i3⟩ := v.item j s' c hj
    have hj1 := v.lt hj
    refine ⟨i1, i2, ?_⟩
    by_cases hjj : j = j0
    · subst hjj
      rw [c1] at hj
      cases hj
      rcases i3 with ⟨e1, _⟩ | ⟨e1, e2, e3, e4, e5⟩
      · rw [← c2] at e1; omega
      · left
        rw [← c2] at e5 ⊢
        refine ⟨by rw [fset_at], ?_⟩
        have e6 : Dt f (tt s) s (sn s) 3 := by
          have : at_ s - 3 = 3 := by omega
          rwa [this] at e5
        exact e6.of (ed _ 0 (by omega)) (ed _ 1 (by omega)) (ed _ 2 (by omega))
    · rw [eq (hd + j) (by omega) (by omega) (by omega)]
      rcases i3 with ⟨e1, e2⟩ | ⟨e1, e2, e3, e4, e5⟩
      · exact .inl ⟨e1, e2.of (ed _ 0 (by omega)) (ed _ 1 (by omega)) (ed _ 2 (by omega))⟩
      · have hne : s' ≠ s := by rintro rfl; omega
        rw [upd_ne _ _ hne, upd_ne _ _ hne, upd_ne _ _ hne]
        exact .inr ⟨e1, e2, e3, e4, e5.of (ed _ 0 (by omega)) (ed _ 1 (by omega)) (ed _ 2 (by omega))⟩
  · by_cases hne : s' = s
    · subst hne
      rw [upd_at, upd_at]
      exact ⟨by omega, by omega, by omega, by omega, fun h => by omega, fun h => by omega⟩
    · rw [upd_ne _ _ hne, upd_ne _ _ hne, upd_ne _ _ hne]
      obtain ⟨d1, d2, d3, d4, d5, d6⟩ := v.st s' hs'
      refine ⟨d1, d2, d3, d4, d5, fun h => ?_⟩
      obtain ⟨j, g1, g2, g3⟩ := d6 h
      have hjl := v.lt g1
      refine ⟨j, g1, g2, ?_⟩
      have hjj : j ≠ j0 := by
        rintro rfl
        rw [c1] at g1
        cases g1
        exact hne rfl
      rw [eq (tt s') (by omega) (by omega) (by omega)]
      exact g3
  · have := v.ord s' hs'
    by_cases hne : s' = s
    · subst hne
      rw [upd_at, upd_at, if_neg (by omega)]
      rw [if_pos (by omega)] at this
      omega
    · rw [upd_ne _ _ hne, upd_ne _ _ hne]
      exact this
  · obtain ⟨d1, d2, d3, d4, d5, d6⟩ := v.fet
    rw [ed _ 0 (by omega), ed _ 1 (by omega), ed _ 2 (by omega)]
    refine ⟨d1, d2, fun h => ?_, d4, d5, d6⟩
    have e1 := d3 h
    rw [eq hd (by omega) (by omega) (by intro e; rw [← e] at c3; omega)]
    exact e1
/-- the one who fetches -/
theorem iv_fetch (v : Iv k f sn se tt at_ hd fa a0 a1 a2 Q) {fa' b0 b1 b2 : Int} (h : 0 ≤ fa' ∧ fa' ≤ 4 ∧ (1 ≤ fa' → f (pl 0 2 hd).toNat = hd + 1) ∧ (2 ≤ fa' → b0 = f (pl 0 2 hd + 1 + 0).toNat) ∧ (3 ≤ fa' → b1 = f (pl 0 2 hd + 1 + 1).toNat) ∧ (4 ≤ fa' → b2 = f (pl 0 2 hd + 1 + 2).toNat)) : Iv k f sn se tt at_ hd fa' b0 b1 b2 Q :=
  ⟨v.h0, v.len, v.tail, v.free, v.item, v.st, v.ord, h⟩
theorem iv_leave (v : Iv k f sn se tt at_ hd 4 a0 a1 a2 Q) : ∃ s Q', s < k ∧ a0 = s ∧ a1 = se s ∧ a2 = s + 10 * se s ∧ Iv k (fset f (pl 0 2 hd).toNat (hd + 2)) sn (upd se s (se s + 1)) tt at_ (hd + 1) 0 0 0 0 Q' := by
  obtain ⟨_, _, d3, d4, d5, d6⟩ := v.fet
  have f1 := d3 (by omega)
  have hlen := v.len
  have h0 := v.h0
  have ht := v.tail
  cases Q with
  | nil =>
    have := v.free hd (by simp) (by omega)
    omega
  | cons e Q =>
    obtain ⟨s, c⟩ := e
    obtain ⟨i1, i2, i3⟩ := v.item 0 s c rfl
    simp only [List.take_zero, cnt, Nat.add_zero] at i2
    rcases i3 with ⟨e1, e2⟩ | ⟨e1, _⟩
    rotate_left
    · simp only [Int.natCast_zero, Int.add_zero] at e1; omega
    simp only [Int.natCast_zero, Int.add_zero] at e1 e2
    obtain ⟨g0, g1, g2⟩ := e2
    simp only [List.length_cons] at hlen ht
    subst i2
    have hp := pl2 hd
    have ef : ∀ y : Int, 0 ≤ y → y ≠ pl 0 2 hd → fset f (pl 0 2 hd).toNat (hd + 2) y.toNat = f y.toNat := fun y hy hne => fset_out f _ y (by omega) hy hne
    have ed : ∀ x z : Int, 0 ≤ z ∧ z ≤ 2 → fset f (pl 0 2 hd).toNat (hd + 2) (pl 0 2 x + 1 + z).toNat = f (pl 0 2 x + 1 + z).toNat := fun x z hz => ef _ (by rw [pl2]; omega) (by rw [pl2, pl2]; omega)
    have eq : ∀ x : Int, hd < x → x < hd + 2 → fset f (pl 0 2 hd).toNat (hd + 2) (pl 0 2 x).toNat = f (pl 0 2 x).toNat := fun x h1 h2 => ef _ (by rw [pl2]; omega) (by rw [pl2, pl2]; omega)
    refine ⟨s, Q, i1, (d4 (by omega)).trans (g0 (by omega)), (d5 (by omega)).trans (g1 (by omega)), (d6 (by omega)).trans (g2 (by omega)), ⟨by omega, by omega, ?_, fun x h1 h2 => ?_, fun j s' c hj => ?_, fun s' hs' => ?_, fun s' hs' => ?_, ⟨by omega, by omega, fun h => by omega, fun h => by omega, fun h => by omega, fun h => by omega⟩⟩⟩
    · have := ef 0 (by omega) (by omega)
      rw [show fset f (pl 0 2 hd).toNat (hd + 2) 0 = f 0 from this]
      omega
    · by_cases hx : x = hd + 2
      · subst hx
        rw [show pl 0 2 (hd + 2) = pl 0 2 hd by rw [pl2, pl2]; omega, fset_at]
      · rw [eq x (by omega) (by omega)]
        exact v.free x (by simp only [List.length_cons]; omega) (by omega)
    · have hj' : ((s, se s) :: Q)[j + 1]? = some (s', c) := hj
      obtain ⟨i1', i2', i3'⟩ := v.item (j + 1) s' c hj'
      have hjl := v.lt hj'
      simp only [List.length_cons] at hjl
      have e : hd + ((j + 1 : Nat) : Int) = hd + 1 + j := by omega
      rw [e] at i3'
      refine ⟨i1', ?_, ?_⟩
      · rw [i2', List.take_succ_cons]
        simp only [cnt]
        by_cases hss : s = s'
        · subst hss; rw [if_pos rfl, upd_at]; omega
        · rw [if_neg hss, upd_ne _ _ (Ne.symm hss)]; omega
      · rw [eq (hd + 1 + j) (by omega) (by omega)]
        rcases i3' with ⟨e1, e2⟩ | ⟨e1, e2, e3, e4, e5⟩
        · exact .inl ⟨e1, e2.of (ed _ 0 (by omega)) (ed _ 1 (by omega)) (ed _ 2 (by omega))⟩
        · exact .inr ⟨e1, e2, e3, e4, e5.of (ed _ 0 (by omega)) (ed _ 1 (by omega)) (ed _ 2 (by omega))⟩
    · obtain ⟨b1, b2, b3, b4, b5, b6⟩ := v.st s' hs'
      simp only [List.length_cons] at b4
      refine ⟨b1, b2, b3, by omega, fun h => .inr (by omega), fun h => ?_⟩
      obtain ⟨j, c1, c2, c3⟩ := b6 h
      have hjl := v.lt c1
      simp only [List.length_cons] at hjl
      cases j with
      | zero =>
        simp only [Int.natCast_zero, Int.add_zero] at c2
        rw [c2] at c3
        omega
      | succ j =>
        refine ⟨j, c1, by omega, ?_⟩
        rw [eq (tt s') (by omega) (by omega)]
        exact c3
    · have := v.ord s' hs'
      simp only [cnt] at this
      by_cases hss : s = s'
      · subst hss; rw [if_pos rfl] at this; rw [upd_at]; omega
      · rw [if_neg hss] at this; rw [upd_ne _ _ (Ne.symm hss)]; omega
end
/-! ### the walk -/
theorem awake (h : H) (Q : V → H → Prop) (q : ∀ h', (∀ id, id < h.nx → h'.get id = h.get id) → h.nx ≤ h'.nx → Q (.b true) h') : @wF IP 58 [] h ⟨Q⟩ :=
  Fnc_any bare 60 rfl rfl (by kernel_rfl) h q
theorem snew {b p w0 w1 w2 : Int} {h : H} {Q : V → H → Prop} (q : ∀ h', Ext h h' → Q (.agg (tsk b p w0 w1 w2 0 0 false false)) h') : @wF IP 50 [.agg [.i .i64 b, .i .i64 p], .agg [.i .u64 w0, .i .u64 w1, .i .u64 w2]] h ⟨Q⟩ := by
  unfold tsk at q
  simp (maxSteps := 2000000) (disch := omega) only [stp, ← decide_not, vEqz, eqz, vEqa, eqList, eqAtom, H.at, H.load, vBox, vNewSl, vBld, fill, Mx.part, vClear, vCopy, vBtos, source, lenV, V.isSl, Mx.room, slcut, cutOp, mkOp, bounds, natIn, H.kill, beq_self_eq_true, if_pos, if_neg, List.cons_append, List.nil_append, List.append_nil, List.length_cons, List.length_nil, List.length_set, List.take_succ_cons, List.take_zero, List.drop_succ_cons, List.drop_zero, List.take_nil, List.drop_nil, List.all_cons, List.all_nil, ite_self, if_true, if_false, ite_true, ite_false, reduceIte, reduceDIte, eq_self, ne_eq, gt_iff_lt, ge_iff_le, Option.map_some, Option.map_none, Nat.reduceAdd, Nat.reduceMul, Nat.reduceSub, Nat.reduceLT, Nat.reduceLeDiff, Nat.reduceEqDiff, Nat.reduceSucc, Int.reduceAdd, Int.reduceSub, Int.reduceMul, Int.reduceNeg, Int.reduceLT, Int.reduceLE, Int.reduceEq, Int.reduceNe, Int.reduceToNat, Int.reduceTMod, Int.reduceTDiv, Int.reduceFDiv, Int.reducePow, Nat.reduceMod, Nat.reduceAnd, Nat.reduceDiv, Nat.reducePow, f50, K50]
  exact q _ ⟨by simp (maxSteps := 2000000) (disch := omega) only [stp, ← decide_not, vEqz, eqz, vEqa, eqList, eqAtom, H.at, H.load, vBox, vNewSl, vBld, fill, Mx.part, vClear, vCopy, vBtos, source, lenV, V.isSl, Mx.room, slcut, cutOp, mkOp, bounds, natIn, H.kill, beq_self_eq_true, if_pos, if_neg, List.cons_append, List.nil_append, List.append_nil, List.length_cons, List.length_nil, List.length_set, List.take_succ_cons, List.take_zero, List.drop_succ_cons, List.drop_zero, List.take_nil, List.drop_nil, List.all_cons, List.all_nil, ite_self, if_true, if_false, ite_true, ite_false, reduceIte, reduceDIte, eq_self, ne_eq, gt_iff_lt, ge_iff_le, Option.map_some, Option.map_none, Nat.reduceAdd, Nat.reduceMul, Nat.reduceSub, Nat.reduceLT, Nat.reduceLeDiff, Nat.reduceEqDiff, Nat.reduceSucc, Int.reduceAdd, Int.reduceSub, Int.reduceMul, Int.reduceNeg, Int.reduceLT, Int.reduceLE, Int.reduceEq, Int.reduceNe, Int.reduceToNat, Int.reduceTMod, Int.reduceTDiv, Int.reduceFDiv, Int.reducePow, Nat.reduceMod, Nat.reduceAnd, Nat.reduceDiv, Nat.reducePow, ]; omega, fun id hid => by simp (maxSteps := 2000000) (disch := omega) only [stp, ← decide_not, vEqz, eqz, vEqa, eqList, eqAtom, H.at, H.load, vBox, vNewSl, vBld, fill, Mx.part, vClear, vCopy, vBtos, source, lenV, V.isSl, Mx.room, slcut, cutOp, mkOp, bounds, natIn, H.kill, beq_self_eq_true, if_pos, if_neg, List.cons_append, List.nil_append, List.append_nil, List.length_cons, List.length_nil, List.length_set, List.take_succ_cons, List.take_zero, List.drop_succ_cons, List.drop_zero, List.take_nil, List.drop_nil, List.all_cons, List.all_nil, ite_self, if_true, if_false, ite_true, ite_false, reduceIte, reduceDIte, eq_self, ne_eq, gt_iff_lt, ge_iff_le, Option.map_some, Option.map_none, Nat.reduceAdd, Nat.reduceMul, Nat.reduceSub, Nat.reduceLT, Nat.reduceLeDiff, Nat.reduceEqDiff, Nat.reduceSucc, Int.reduceAdd, Int.reduceSub, Int.reduceMul, Int.reduceNeg, Int.reduceLT, Int.reduceLE, Int.reduceEq, Int.reduceNe, Int.reduceToNat, Int.reduceTMod, Int.reduceTDiv, Int.reduceFDiv, Int.reducePow, Nat.reduceMod, Nat.reduceAnd, Nat.reduceDiv, Nat.reducePow, ]⟩
theorem fnew {b p t : Int} {h : H} {Q : V → H → Prop} (q : ∀ h', Ext h h' → Q (.agg (fsk b p t 0 0 0 0 false)) h') : @wF IP 49 [.agg [.i .i64 b, .i .i64 p], .i .u64 t] h ⟨Q⟩ := by
  unfold fsk at q
  simp (maxSteps := 2000000) (disch := omega) only [stp, ← decide_not, vEqz, eqz, vEqa, eqList, eqAtom, H.at, H.load, vBox, vNewSl, vBld, fill, Mx.part, vClear, vCopy, vBtos, source, lenV, V.isSl, Mx.room, slcut, cutOp, mkOp, bounds, natIn, H.kill, beq_self_eq_true, if_pos, if_neg, List.cons_append, List.nil_append, List.append_nil, List.length_cons, List.length_nil, List.length_set, List.take_succ_cons, List.take_zero, List.drop_succ_cons, List.drop_zero, List.take_nil, List.drop_nil, List.all_cons, List.all_nil, ite_self, if_true, if_false, ite_true, ite_false, reduceIte, reduceDIte, eq_self, ne_eq, gt_iff_lt, ge_iff_le, Option.map_some, Option.map_none, Nat.reduceAdd, Nat.reduceMul, Nat.reduceSub, Nat.reduceLT, Nat.reduceLeDiff, Nat.reduceEqDiff, Nat.reduceSucc, Int.reduceAdd, Int.reduceSub, Int.reduceMul, Int.reduceNeg, Int.reduceLT, Int.reduceLE, Int.reduceEq, Int.reduceNe, Int.reduceToNat, Int.reduceTMod, Int.reduceTDiv, Int.reduceFDiv, Int.reducePow, Nat.reduceMod, Nat.reduceAnd, Nat.reduceDiv, Nat.reducePow, f49, K49]
  exact q _ ⟨by simp (maxSteps := 2000000) (disch := omega) only [stp, ← decide_not, vEqz, eqz, vEqa, eqList, eqAtom, H.at, H.load, vBox, vNewSl, vBld, fill, Mx.part, vClear, vCopy, vBtos, source, lenV, V.isSl, Mx.room, slcut, cutOp, mkOp, bounds, natIn, H.kill, beq_self_eq_true, if_pos, if_neg, List.cons_append, List.nil_append, List.append_nil, List.length_cons, List.length_nil, List.length_set, List.take_succ_cons, List.take_zero, List.drop_succ_cons, List.drop_zero, List.take_nil, List.drop_nil, List.all_cons, List.all_nil, ite_self, if_true, if_false, ite_true, ite_false, reduceIte, reduceDIte, eq_self, ne_eq, gt_iff_lt, ge_iff_le, Option.map_some, Option.map_none, Nat.reduceAdd, Nat.reduceMul, Nat.reduceSub, Nat.reduceLT, Nat.reduceLeDiff, Nat.reduceEqDiff, Nat.reduceSucc, Int.reduceAdd, Int.reduceSub, Int.reduceMul, Int.reduceNeg, Int.reduceLT, Int.reduceLE, Int.reduceEq, Int.reduceNe, Int.reduceToNat, Int.reduceTMod, Int.reduceTDiv, Int.reduceFDiv, Int.reducePow, Nat.reduceMod, Nat.reduceAnd, Nat.reduceDiv, Nat.reducePow, ]; omega, fun id hid => by simp (maxSteps := 2000000) (disch := omega) only [stp, ← decide_not, vEqz, eqz, vEqa, eqList, eqAtom, H.at, H.load, vBox, vNewSl, vBld, fill, Mx.part, vClear, vCopy, vBtos, source, lenV, V.isSl, Mx.room, slcut, cutOp, mkOp, bounds, natIn, H.kill, beq_self_eq_true, if_pos, if_neg, List.cons_append, List.nil_append, List.append_nil, List.length_cons, List.length_nil, List.length_set, List.take_succ_cons, List.take_zero, List.drop_succ_cons, List.drop_zero, List.take_nil, List.drop_nil, List.all_cons, List.all_nil, ite_self, if_true, if_false, ite_true, ite_false, reduceIte, reduceDIte, eq_self, ne_eq, gt_iff_lt, ge_iff_le, Option.map_some, Option.map_none, Nat.reduceAdd, Nat.reduceMul, Nat.reduceSub, Nat.reduceLT, Nat.reduceLeDiff, Nat.reduceEqDiff, Nat.reduceSucc, Int.reduceAdd, Int.reduceSub, Int.reduceMul, Int.reduceNeg, Int.reduceLT, Int.reduceLE, Int.reduceEq, Int.reduceNe, Int.reduceToNat, Int.reduceTMod, Int.reduceTDiv, Int.reduceFDiv, Int.reducePow, Nat.reduceMod, Nat.reduceAnd, Nat.reduceDiv, Nat.reducePow, ]⟩
def Lst (h : H) (own : Nat → Prop) (rr : Nat) (l : V) (rows : List (List V)) : Prop := (rows = [] ∧ (l = .nsl ∨ l = .es false)) ∨ ∃ rl c, rl < rr ∧ l = .sl rl 0 rows.length c ∧ Has h own rl ⟨true, rows.flatten⟩
theorem Lst.fr {h h' : H} {own own' : Nat → Prop} {rr : Nat} {l : V} {rows : List (List V)} (k : Lst h own rr l rows) (fr : Fr h own h' own') : Lst h' own' rr l rows := by
  rcases k with k | ⟨rl, c, h1, h2, h3⟩
  · exact .inl k
  · exact .inr ⟨rl, c, h1, h2, fr.has h3⟩
theorem Lst.len {h : H} {own : Nat → Prop} {rr : Nat} {l : V} {rows : List (List V)} (k : Lst h own rr l rows) : vLens l = some (.i .i64 rows.length) := by
  rcases k with ⟨rfl, rfl | rfl⟩ | ⟨rl, c, _, rfl, k⟩ <;> rfl
theorem Has.put {h : H} {own : Nat → Prop} {id j : Nat} {o : O} (k : Has h own id o) (hj : id ≠ j) (x : Option O) : Has (h.put j x) own id o := ⟨k.1, k.2.1, by rw [H.get_put, if_neg hj]; exact k.2.2⟩
theorem Has.same {h : H} {own : Nat → Prop} {id : Nat} {o : O} (k : Has h own id o) (x : O) : Has (h.put id (some x)) own id x := ⟨k.1, k.2.1, by rw [H.get_put, if_pos rfl]⟩
theorem Lst.put {h : H} {own : Nat → Prop} {rr : Nat} {l : V} {rows : List (List V)} (k : Lst h own rr l rows) {j : Nat} (hj : rr ≤ j) (x : Option O) : Lst (h.put j x) own rr l rows := by
  rcases k with k | ⟨rl, c, h1, h2, h3⟩
  · exact .inl k
  · exact .inr ⟨rl, c, h1, h2, h3.put (by omega) x⟩
/-- rows of tasks, and of numbers -/
def Tr2 (k : Nat) (tg : Nat → List V) : List V := ((List.range k).map tg).flatten
def Nr (k : Nat) (g : Nat → Nat) : List V := (List.range k).map fun s => V.i .i64 (g s)
theorem rset {α : Type} {k s : Nat} (g : Nat → α) (v : α) (hs : s < k) : ((List.range k).map g).set s v = (List.range k).map (upd g s v) := by
  apply List.ext_getElem
  · simp
  · intro i h1 h2
    simp only [List.length_set, List.length_map, List.length_range] at h1
    rw [List.getElem_set, List.getElem_map, List.getElem_map, List.getElem_range]
    unfold upd
    by_cases h : s = i
    · rw [if_pos h, if_pos h.symm]
    · rw [if_neg h, if_neg (Ne.symm h)]
theorem nr_get {k s : Nat} (g : Nat → Nat) (hs : s < k) : (Nr k g)[s]? = some (.i .i64 (g s)) := by
  unfold Nr
  rw [List.getElem?_eq_getElem (by simpa using hs), List.getElem_map, List.getElem_range]
theorem nr_set {k s : Nat} (g : Nat → Nat) (v : Nat) (hs : s < k) : (Nr k g).set s (.i .i64 (v : Int)) = Nr k (upd g s v) := by
  unfold Nr
  rw [rset _ _ hs]
  congr 1
  funext j
  unfold upd
  split <;> rfl
theorem nr_lay {k s : Nat} (g : Nat → Nat) (v : Nat) (hs : s < k) : lay (Nr k g) s [.i .i64 (v : Int)] = Nr k (upd g s v) := by
  rw [← nr_set g v hs]
  unfold lay
  rw [List.set_eq_take_append_cons_drop, if_pos (by unfold Nr; simpa using hs)]
  simp
theorem nr_len (k : Nat) (g : Nat → Nat) : (Nr k g).length = k := by unfold Nr; simp
theorem tr_wid {k : Nat} {tg : Nat → List V} (hw : ∀ s, (tg s).length = 9) : ∀ r ∈ (List.range k).map tg, r.length = 9 := by
  intro r hr
  obtain ⟨j, _, rfl⟩ := List.mem_map.1 hr
  exact hw j
theorem tr_len {k : Nat} {tg : Nat → List V} (hw : ∀ s, (tg s).length = 9) : (Tr2 k tg).length = k * 9 := by
  unfold Tr2
  rw [flat_len (tr_wid hw)]
  simp
theorem tr_cut {k s : Nat} {tg : Nat → List V} (hw : ∀ s, (tg s).length = 9) (hs : s < k) : cut (Tr2 k tg) (s * 9) 9 = some (tg s) := by
  have := flat_cut (tr_wid (k := k) hw) s [] (by simpa using hs)
  rw [List.append_nil] at this
  unfold Tr2
  rw [this]
  simp
theorem tr_lay {k s : Nat} {tg : Nat → List V} (hw : ∀ s, (tg s).length = 9) (hs : s < k) {r : List V} (hr : r.length = 9) : lay (Tr2 k tg) (s * 9) r = Tr2 k (upd tg s r) := by
  have := flat_lay (tr_wid (k := k) hw) s [] (by simpa using hs) hr
  rw [List.append_nil, List.append_nil, rset _ _ hs] at this
  exact this
/-- what lies in the heap -/
structure Hp (h : H) (own : Nat → Prop) (rr tr sr er ur k : Nat) (l : V) (lr : List (List V)) (tg : Nat → List V) (sn se : Nat → Nat) (fu : List V) : Prop where
  r : Has h own rr ⟨false, [.i .i64 0, .i .i64 2]⟩
  t : Has h own tr ⟨false, Tr2 k tg⟩
  s : Has h own sr ⟨false, Nr k sn⟩
  e : Has h own er ⟨false, Nr k se⟩
  u : Has h own ur ⟨false, fu⟩
  l : Lst h own rr l lr
  o : rr < tr ∧ tr < sr ∧ sr < er ∧ er < ur
section
variable {h h' : H} {own own' : Nat → Prop} {rr tr sr er ur k : Nat} {l : V} {lr : List (List V)} {tg : Nat → List V} {sn se : Nat → Nat} {fu : List V}
theorem Hp.fr (p : Hp h own rr tr sr er ur k l lr tg sn se fu) (f : Fr h own h' own') : Hp h' own' rr tr sr er ur k l lr tg sn se fu :=
  ⟨f.has p.r, f.has p.t, f.has p.s, f.has p.e, f.has p.u, p.l.fr f, p.o⟩
theorem Hp.putT (p : Hp h own rr tr sr er ur k l lr tg sn se fu) (tg' : Nat → List V) : Hp (h.put tr (some ⟨false, Tr2 k tg'⟩)) own rr tr sr er ur k l lr tg' sn se fu := by
  have := p.o
  exact ⟨p.r.put (by omega) _, p.t.same _, p.s.put (by omega) _, p.e.put (by omega) _, p.u.put (by omega) _, p.l.put (by omega) _, p.o⟩
theorem Hp.putS (p : Hp h own rr tr sr er ur k l lr tg sn se fu) (sn' : Nat → Nat) : Hp (h.put sr (some ⟨false, Nr k sn'⟩)) own rr tr sr er ur k l lr tg sn' se fu := by
  have := p.o
  exact ⟨p.r.put (by omega) _, p.t.put (by omega) _, p.s.same _, p.e.put (by omega) _, p.u.put (by omega) _, p.l.put (by omega) _, p.o⟩
theorem Hp.putE (p : Hp h own rr tr sr er ur k l lr tg sn se fu) (se' : Nat → Nat) : Hp (h.put er (some ⟨false, Nr k se'⟩)) own rr tr sr er ur k l lr tg sn se' fu := by
  have := p.o
  exact ⟨p.r.put (by omega) _, p.t.put (by omega) _, p.s.put (by omega) _, p.e.same _, p.u.put (by omega) _, p.l.put (by omega) _, p.o⟩
theorem Hp.putU (p : Hp h own rr tr sr er ur k l lr tg sn se fu) (fu' : List V) : Hp (h.put ur (some ⟨false, fu'⟩)) own rr tr sr er ur k l lr tg sn se fu' := by
  have := p.o
  exact ⟨p.r.put (by omega) _, p.t.put (by omega) _, p.s.put (by omega) _, p.e.put (by omega) _, p.u.same _, p.l.put (by omega) _, p.o⟩
end
/-- one cell was touched: on -/
theorem m8 {h : H} {own : Nat → Prop} {ra : Nat} {f : Nat → Int} {c : Int} (a : Ar h ra 9 f [c] 0 own) {x0 x5 x7 x8 x9 x10 x11 x12 : V} {i : Nat} (hi : i < 400) {q : Hid (V → H → Prop)} {g : Hid (V → V → V → V → V → V → V → V → V → V → H → Prop)} (Qg : ∀ h', Ext h h' → g.un x0 x5 (.p (some (ra, 0))) x7 x8 x9 x10 x11 x12 (.i .i64 (i + 1 : Nat)) h') :
    @K10_8 x0 x5 (.p (some (ra, 0))) x7 x8 x9 x10 x11 x12 (.i .i64 i) h q g := by
  simp (maxSteps := 2000000) (disch := omega) only [stp, ← decide_not, vEqz, eqz, vEqa, eqList, eqAtom, H.at, H.load, vBox, vNewSl, vBld, fill, Mx.part, vClear, vCopy, vBtos, source, lenV, V.isSl, Mx.room, slcut, cutOp, mkOp, bounds, natIn, H.kill, beq_self_eq_true, if_pos, if_neg, List.cons_append, List.nil_append, List.append_nil, List.length_cons, List.length_nil, List.length_set, List.take_succ_cons, List.take_zero, List.drop_succ_cons, List.drop_zero, List.take_nil, List.drop_nil, List.all_cons, List.all_nil, ite_self, if_true, if_false, ite_true, ite_false, reduceIte, reduceDIte, eq_self, ne_eq, gt_iff_lt, ge_iff_le, Option.map_some, Option.map_none, Nat.reduceAdd, Nat.reduceMul, Nat.reduceSub, Nat.reduceLT, Nat.reduceLeDiff, Nat.reduceEqDiff, Nat.reduceSucc, Int.reduceAdd, Int.reduceSub, Int.reduceMul, Int.reduceNeg, Int.reduceLT, Int.reduceLE, Int.reduceEq, Int.reduceNe, Int.reduceToNat, Int.reduceTMod, Int.reduceTDiv, Int.reduceFDiv, Int.reducePow, Nat.reduceMod, Nat.reduceAnd, Nat.reduceDiv, Nat.reducePow, K10_8]
  refine atouched1 a (fun h' v e lv => ?_)
  simp (maxSteps := 2000000) (disch := omega) only [stp, ← decide_not, vEqz, eqz, vEqa, eqList, eqAtom, H.at, H.load, vBox, vNewSl, vBld, fill, Mx.part, vClear, vCopy, vBtos, source, lenV, V.isSl, Mx.room, slcut, cutOp, mkOp, bounds, natIn, H.kill, beq_self_eq_true, if_pos, if_neg, List.cons_append, List.nil_append, List.append_nil, List.length_cons, List.length_nil, List.length_set, List.take_succ_cons, List.take_zero, List.drop_succ_cons, List.drop_zero, List.take_nil, List.drop_nil, List.all_cons, List.all_nil, ite_self, if_true, if_false, ite_true, ite_false, reduceIte, reduceDIte, eq_self, ne_eq, gt_iff_lt, ge_iff_le, Option.map_some, Option.map_none, Nat.reduceAdd, Nat.reduceMul, Nat.reduceSub, Nat.reduceLT, Nat.reduceLeDiff, Nat.reduceEqDiff, Nat.reduceSucc, Int.reduceAdd, Int.reduceSub, Int.reduceMul, Int.reduceNeg, Int.reduceLT, Int.reduceLE, Int.reduceEq, Int.reduceNe, Int.reduceToNat, Int.reduceTMod, Int.reduceTDiv, Int.reduceFDiv, Int.reducePow, Nat.reduceMod, Nat.reduceAnd, Nat.reduceDiv, Nat.reducePow, K10_6, lv]
  exact Qg h' e
section
variable {h : H} {own : Nat → Prop} {ra rr tr sr er ur k i : Nat} {l : V} {lr : List (List V)} {tg : Nat → List V} {sn se : Nat → Nat} {fu : List V} {f : Nat → Int} {c : Int} {ct cs ce : Cap} {hd : Int} {q : Hid (V → H → Prop)} {g : Hid (V → V → V → V → V → V → V → V → V → V → H → Prop)}
/-- one who sends begins a new frame -/
theorem m9 (a : Ar h ra 9 f [c] 0 own) (p : Hp h own rr tr sr er ur k l lr tg sn se fu) (hw : ∀ s, (tg s).length = 9) (hi : i < 400) (hk : k ≤ 3) {s : Nat} (hs : s < k) (hb : sn s ≤ 400)
    (Qg : ∀ h', Ar h' ra 9 f [c] 0 own → Hp h' own rr tr sr er ur k l lr (upd tg s (tsk 0 2 s (sn s) (s + 10 * sn s) 0 0 false false)) sn se fu → g.un l (.p (some (rr, 0))) (.p (some (ra, 0))) (.i .i64 k) (.sl tr 0 k ct) (.sl sr 0 k cs) (.sl er 0 k ce) (.p (some (ur, 0))) (.i .u64 hd) (.i .i64 (i + 1 : Nat)) h') :
    @K10_9 l (.p (some (rr, 0))) (.p (some (ra, 0))) (.i .i64 k) (.sl tr 0 k ct) (.sl sr 0 k cs) (.sl er 0 k ce) (.p (some (ur, 0))) (.i .u64 hd) (.i .i64 i) (.i .i64 s) h q g := by
  have r0 := p.r.2.2
  have s0 := p.s.2.2
  have ho := p.o
  have hg := nr_get sn hs
  simp (maxSteps := 2000000) (disch := omega) only [stp, ← decide_not, vEqz, eqz, vEqa, eqList, eqAtom, H.at, H.load, vBox, vNewSl, vBld, fill, Mx.part, vClear, vCopy, vBtos, source, lenV, V.isSl, Mx.room, slcut, cutOp, mkOp, bounds, natIn, H.kill, beq_self_eq_true, if_pos, if_neg, List.cons_append, List.nil_append, List.append_nil, List.length_cons, List.length_nil, List.length_set, List.take_succ_cons, List.take_zero, List.drop_succ_cons, List.drop_zero, List.take_nil, List.drop_nil, List.all_cons, List.all_nil, ite_self, if_true, if_false, ite_true, ite_false, reduceIte, reduceDIte, eq_self, ne_eq, gt_iff_lt, ge_iff_le, Option.map_some, Option.map_none, Nat.reduceAdd, Nat.reduceMul, Nat.reduceSub, Nat.reduceLT, Nat.reduceLeDiff, Nat.reduceEqDiff, Nat.reduceSucc, Int.reduceAdd, Int.reduceSub, Int.reduceMul, Int.reduceNeg, Int.reduceLT, Int.reduceLE, Int.reduceEq, Int.reduceNe, Int.reduceToNat, Int.reduceTMod, Int.reduceTDiv, Int.reduceFDiv, Int.reducePow, Nat.reduceMod, Nat.reduceAnd, Nat.reduceDiv, Nat.reducePow, K10_9, r0, s0, hg]
  refine snew (fun h1 e1 => ?_)
  have p1 := p.fr (e1.fr own)
  have a1 := a.ext e1
  have t1 := p1.t.2.2
  have hl := tr_len (k := k) hw
  have hy := tr_lay (k := k) hw hs (r := tsk 0 2 s (sn s) (s + 10 * sn s) 0 0 false false) rfl
  have p2 := p1.putT (upd tg s (tsk 0 2 s (sn s) (s + 10 * sn s) 0 0 false false))
  unfold tsk at hy p2 Qg ⊢
  simp (maxSteps := 2000000) (disch := omega) only [stp, ← decide_not, vEqz, eqz, vEqa, eqList, eqAtom, H.at, H.load, vBox, vNewSl, vBld, fill, Mx.part, vClear, vCopy, vBtos, source, lenV, V.isSl, Mx.room, slcut, cutOp, mkOp, bounds, natIn, H.kill, beq_self_eq_true, if_pos, if_neg, List.cons_append, List.nil_append, List.append_nil, List.length_cons, List.length_nil, List.length_set, List.take_succ_cons, List.take_zero, List.drop_succ_cons, List.drop_zero, List.take_nil, List.drop_nil, List.all_cons, List.all_nil, ite_self, if_true, if_false, ite_true, ite_false, reduceIte, reduceDIte, eq_self, ne_eq, gt_iff_lt, ge_iff_le, Option.map_some, Option.map_none, Nat.reduceAdd, Nat.reduceMul, Nat.reduceSub, Nat.reduceLT, Nat.reduceLeDiff, Nat.reduceEqDiff, Nat.reduceSucc, Int.reduceAdd, Int.reduceSub, Int.reduceMul, Int.reduceNeg, Int.reduceLT, Int.reduceLE, Int.reduceEq, Int.reduceNe, Int.reduceToNat, Int.reduceTMod, Int.reduceTDiv, Int.reduceFDiv, Int.reducePow, Nat.reduceMod, Nat.reduceAnd, Nat.reduceDiv, Nat.reducePow, t1, hl, hy]
  exact m8 (a1.put p1.t.2.1 _) hi (fun h' e => Qg h' ((a1.put p1.t.2.1 _).ext e) (p2.fr (e.fr own)))
/-- a fetching is begun -/
theorem m10 (a : Ar h ra 9 f [c] 0 own) (p : Hp h own rr tr sr er ur k l lr tg sn se fu) (hfr : fu.length = 8) (hi : i < 400)
    (Qg : ∀ h', Ar h' ra 9 f [c] 0 own → Hp h' own rr tr sr er ur k l lr tg sn se (fsk 0 2 hd 0 0 0 0 false) → g.un l (.p (some (rr, 0))) (.p (some (ra, 0))) (.i .i64 k) (.sl tr 0 k ct) (.sl sr 0 k cs) (.sl er 0 k ce) (.p (some (ur, 0))) (.i .u64 hd) (.i .i64 (i + 1 : Nat)) h') :
    @K10_10 l (.p (some (rr, 0))) (.p (some (ra, 0))) (.i .i64 k) (.sl tr 0 k ct) (.sl sr 0 k cs) (.sl er 0 k ce) (.p (some (ur, 0))) (.i .u64 hd) (.i .i64 i) h q g := by
  have r0 := p.r.2.2
  simp (maxSteps := 2000000) (disch := omega) only [stp, ← decide_not, vEqz, eqz, vEqa, eqList, eqAtom, H.at, H.load, vBox, vNewSl, vBld, fill, Mx.part, vClear, vCopy, vBtos, source, lenV, V.isSl, Mx.room, slcut, cutOp, mkOp, bounds, natIn, H.kill, beq_self_eq_true, if_pos, if_neg, List.cons_append, List.nil_append, List.append_nil, List.length_cons, List.length_nil, List.length_set, List.take_succ_cons, List.take_zero, List.drop_succ_cons, List.drop_zero, List.take_nil, List.drop_nil, List.all_cons, List.all_nil, ite_self, if_true, if_false, ite_true, ite_false, reduceIte, reduceDIte, eq_self, ne_eq, gt_iff_lt, ge_iff_le, Option.map_some, Option.map_none, Nat.reduceAdd, Nat.reduceMul, Nat.reduceSub, Nat.reduceLT, Nat.reduceLeDiff, Nat.reduceEqDiff, Nat.reduceSucc, Int.reduceAdd, Int.reduceSub, Int.reduceMul, Int.reduceNeg, Int.reduceLT, Int.reduceLE, Int.reduceEq, Int.reduceNe, Int.reduceToNat, Int.reduceTMod, Int.reduceTDiv, Int.reduceFDiv, Int.reducePow, Nat.reduceMod, Nat.reduceAnd, Nat.reduceDiv, Nat.reducePow, K10_10, r0]
  refine fnew (fun h1 e1 => ?_)
  have p1 := p.fr (e1.fr own)
  have a1 := a.ext e1
  have u1 := p1.u.2.2
  have p2 := p1.putU (fsk 0 2 hd 0 0 0 0 false)
  have hy : lay fu 0 (fsk 0 2 hd 0 0 0 0 false) = fsk 0 2 hd 0 0 0 0 false := by
    unfold lay
    have : (fsk 0 2 hd 0 0 0 0 false).length = 8 := rfl
    rw [List.take_zero, List.nil_append, this, List.drop_eq_nil_of_le (by omega), List.append_nil]
  unfold fsk at p2 Qg hy ⊢
  simp (maxSteps := 2000000) (disch := omega) only [stp, ← decide_not, vEqz, eqz, vEqa, eqList, eqAtom, H.at, H.load, vBox, vNewSl, vBld, fill, Mx.part, vClear, vCopy, vBtos, source, lenV, V.isSl, Mx.room, slcut, cutOp, mkOp, bounds, natIn, H.kill, beq_self_eq_true, if_pos, if_neg, List.cons_append, List.nil_append, List.append_nil, List.length_cons, List.length_nil, List.length_set, List.take_succ_cons, List.take_zero, List.drop_succ_cons, List.drop_zero, List.take_nil, List.drop_nil, List.all_cons, List.all_nil, ite_self, if_true, if_false, ite_true, ite_false, reduceIte, reduceDIte, eq_self, ne_eq, gt_iff_lt, ge_iff_le, Option.map_some, Option.map_none, Nat.reduceAdd, Nat.reduceMul, Nat.reduceSub, Nat.reduceLT, Nat.reduceLeDiff, Nat.reduceEqDiff, Nat.reduceSucc, Int.reduceAdd, Int.reduceSub, Int.reduceMul, Int.reduceNeg, Int.reduceLT, Int.reduceLE, Int.reduceEq, Int.reduceNe, Int.reduceToNat, Int.reduceTMod, Int.reduceTDiv, Int.reduceFDiv, Int.reducePow, Nat.reduceMod, Nat.reduceAnd, Nat.reduceDiv, Nat.reducePow, u1, hfr, hy]
  exact m8 (a1.put p1.u.2.1 _) hi (fun h' e => Qg h' ((a1.put p1.u.2.1 _).ext e) (p2.fr (e.fr own)))
end
section
variable {h : H} {own : Nat → Prop} {ra rr tr sr er ur k i : Nat} {l : V} {lr : List (List V)} {tg : Nat → List V} {sn se : Nat → Nat} {fu : List V} {f f' : Nat → Int} {ts : List Int} {c : Int} {ct cs ce : Cap} {hd : Int} {q : Hid (V → H → Prop)} {g : Hid (V → V → V → V → V → V → V → V → V → V → H → Prop)}
/-- one who sends does a step -/
theorem m7s (a : Ar h ra 9 f ts 0 own) (p : Hp h own rr tr sr er ur k l lr tg sn se fu) (hw : ∀ s, (tg s).length = 9) (hi : i < 400) (hk : k ≤ 3) {s : Nat} (hs : s < k) (hb : sn s < 400) {t a_ t' a' : Int} {fl : Bool} (hT : tg s = tsk 0 2 s (sn s) (s + 10 * sn s) t a_ false false)
    (D : Does ra 9 (tsk 0 2 s (sn s) (s + 10 * sn s) t a_ false false) (tsk 0 2 s (sn s) (s + 10 * sn s) t' a' false fl) f f' c 0) (hc : fl = false ∧ a' ≠ 7 ∨ fl = true ∧ a' ≠ 7 ∨ fl = false ∧ a' = 7)
    (Qg : ∀ h' own' tg' sn', (fl = false ∧ a' ≠ 7 ∧ tg' = upd tg s (tsk 0 2 s (sn s) (s + 10 * sn s) t' a' false false) ∧ sn' = sn ∨ fl = true ∧ tg' = upd (upd tg s (tsk 0 2 s (sn s) (s + 10 * sn s) t' a' false true)) s (tsk 0 2 s (sn s) (s + 10 * sn s) 0 0 false false) ∧ sn' = sn ∨
        a' = 7 ∧ tg' = upd (upd tg s (tsk 0 2 s (sn s) (s + 10 * sn s) t' a' false false)) s (tsk 0 2 s (sn s + 1 : Nat) (s + 10 * (sn s + 1 : Nat)) 0 0 false false) ∧ sn' = upd sn s (sn s + 1)) →
      Ar h' ra 9 f' [c] 0 own' → Hp h' own' rr tr sr er ur k l lr tg' sn' se fu → g.un l (.p (some (rr, 0))) (.p (some (ra, 0))) (.i .i64 k) (.sl tr 0 k ct) (.sl sr 0 k cs) (.sl er 0 k ce) (.p (some (ur, 0))) (.i .u64 hd) (.i .i64 (i + 1 : Nat)) h') :
    @K10_7 l (.p (some (rr, 0))) (.p (some (ra, 0))) (.i .i64 k) (.sl tr 0 k ct) (.sl sr 0 k cs) (.sl er 0 k ce) (.p (some (ur, 0))) (.i .u64 hd) (.i .i64 i) (.i .i64 s) h q g := by
  simp (maxSteps := 2000000) (disch := omega) only [stp, ← decide_not, vEqz, eqz, vEqa, eqList, eqAtom, H.at, H.load, vBox, vNewSl, vBld, fill, Mx.part, vClear, vCopy, vBtos, source, lenV, V.isSl, Mx.room, slcut, cutOp, mkOp, bounds, natIn, H.kill, beq_self_eq_true, if_pos, if_neg, List.cons_append, List.nil_append, List.append_nil, List.length_cons, List.length_nil, List.length_set, List.take_succ_cons, List.take_zero, List.drop_succ_cons, List.drop_zero, List.take_nil, List.drop_nil, List.all_cons, List.all_nil, ite_self, if_true, if_false, ite_true, ite_false, reduceIte, reduceDIte, eq_self, ne_eq, gt_iff_lt, ge_iff_le, Option.map_some, Option.map_none, Nat.reduceAdd, Nat.reduceMul, Nat.reduceSub, Nat.reduceLT, Nat.reduceLeDiff, Nat.reduceEqDiff, Nat.reduceSucc, Int.reduceAdd, Int.reduceSub, Int.reduceMul, Int.reduceNeg, Int.reduceLT, Int.reduceLE, Int.reduceEq, Int.reduceNe, Int.reduceToNat, Int.reduceTMod, Int.reduceTDiv, Int.reduceFDiv, Int.reducePow, Nat.reduceMod, Nat.reduceAnd, Nat.reduceDiv, Nat.reducePow, K10_7]
  refine abegin a (fun h1 a1 fr1 => ?_)
  have p1 := p.fr fr1
  have ho := p.o
  have t1 := p1.t.2.2
  have hcut := tr_cut (k := k) hw hs
  rw [hT] at hcut
  simp (maxSteps := 2000000) (disch := omega) only [stp, ← decide_not, vEqz, eqz, vEqa, eqList, eqAtom, H.at, H.load, vBox, vNewSl, vBld, fill, Mx.part, vClear, vCopy, vBtos, source, lenV, V.isSl, Mx.room, slcut, cutOp, mkOp, bounds, natIn, H.kill, beq_self_eq_true, if_pos, if_neg, List.cons_append, List.nil_append, List.append_nil, List.length_cons, List.length_nil, List.length_set, List.take_succ_cons, List.take_zero, List.drop_succ_cons, List.drop_zero, List.take_nil, List.drop_nil, List.all_cons, List.all_nil, ite_self, if_true, if_false, ite_true, ite_false, reduceIte, reduceDIte, eq_self, ne_eq, gt_iff_lt, ge_iff_le, Option.map_some, Option.map_none, Nat.reduceAdd, Nat.reduceMul, Nat.reduceSub, Nat.reduceLT, Nat.reduceLeDiff, Nat.reduceEqDiff, Nat.reduceSucc, Int.reduceAdd, Int.reduceSub, Int.reduceMul, Int.reduceNeg, Int.reduceLT, Int.reduceLE, Int.reduceEq, Int.reduceNe, Int.reduceToNat, Int.reduceTMod, Int.reduceTDiv, Int.reduceFDiv, Int.reducePow, Nat.reduceMod, Nat.reduceAnd, Nat.reduceDiv, Nat.reducePow, t1, hcut]
  refine D h1 own _ a1 (fun h2 own2 a2 fr2 => ?_)
  have p2 := p1.fr fr2
  have t2 := p2.t.2.2
  have hl := tr_len (k := k) hw
  have hw' : ∀ (r : List V), r.length = 9 → ∀ j, (upd tg s r j).length = 9 := by
    intro r hr j
    unfold upd
    split
    · exact hr
    · exact hw j
  rcases hc with ⟨rfl, h7⟩ | ⟨rfl, h7⟩ | ⟨rfl, rfl⟩
  · have hy := tr_lay (k := k) hw hs (r := tsk 0 2 s (sn s) (s + 10 * sn s) t' a' false false) rfl
    have hcut2 := tr_cut (k := k) (hw' (tsk 0 2 s (sn s) (s + 10 * sn s) t' a' false false) rfl) hs
    rw [upd_at] at hcut2
    have p3 := p2.putT (upd tg s (tsk 0 2 s (sn s) (s + 10 * sn s) t' a' false false))
    have A3 := a2.put p2.t.2.1 (some ⟨false, Tr2 k (upd tg s (tsk 0 2 s (sn s) (s + 10 * sn s) t' a' false false))⟩)
    have Qg' := fun h' own' => Qg h' own' _ _ (.inl ⟨rfl, h7, rfl, rfl⟩)
    unfold tsk at hy hcut2 p3 A3 Qg' ⊢
    simp (maxSteps := 2000000) (disch := omega) only [stp, ← decide_not, vEqz, eqz, vEqa, eqList, eqAtom, H.at, H.load, vBox, vNewSl, vBld, fill, Mx.part, vClear, vCopy, vBtos, source, lenV, V.isSl, Mx.room, slcut, cutOp, mkOp, bounds, natIn, H.kill, beq_self_eq_true, if_pos, if_neg, List.cons_append, List.nil_append, List.append_nil, List.length_cons, List.length_nil, List.length_set, List.take_succ_cons, List.take_zero, List.drop_succ_cons, List.drop_zero, List.take_nil, List.drop_nil, List.all_cons, List.all_nil, ite_self, if_true, if_false, ite_true, ite_false, reduceIte, reduceDIte, eq_self, ne_eq, gt_iff_lt, ge_iff_le, Option.map_some, Option.map_none, Nat.reduceAdd, Nat.reduceMul, Nat.reduceSub, Nat.reduceLT, Nat.reduceLeDiff, Nat.reduceEqDiff, Nat.reduceSucc, Int.reduceAdd, Int.reduceSub, Int.reduceMul, Int.reduceNeg, Int.reduceLT, Int.reduceLE, Int.reduceEq, Int.reduceNe, Int.reduceToNat, Int.reduceTMod, Int.reduceTDiv, Int.reduceFDiv, Int.reducePow, Nat.reduceMod, Nat.reduceAnd, Nat.reduceDiv, Nat.reducePow, t2, hl, hy, hcut2, f53, K53]
    refine m8 (A3.ext ⟨by simp (maxSteps := 2000000) (disch := omega) only [stp, ← decide_not, vEqz, eqz, vEqa, eqList, eqAtom, H.at, H.load, vBox, vNewSl, vBld, fill, Mx.part, vClear, vCopy, vBtos, source, lenV, V.isSl, Mx.room, slcut, cutOp, mkOp, bounds, natIn, H.kill, beq_self_eq_true, if_pos, if_neg, List.cons_append, List.nil_append, List.append_nil, List.length_cons, List.length_nil, List.length_set, List.take_succ_cons, List.take_zero, List.drop_succ_cons, List.drop_zero, List.take_nil, List.drop_nil, List.all_cons, List.all_nil, ite_self, if_true, if_false, ite_true, ite_false, reduceIte, reduceDIte, eq_self, ne_eq, gt_iff_lt, ge_iff_le, Option.map_some, Option.map_none, Nat.reduceAdd, Nat.reduceMul, Nat.reduceSub, Nat.reduceLT, Nat.reduceLeDiff, Nat.reduceEqDiff, Nat.reduceSucc, Int.reduceAdd, Int.reduceSub, Int.reduceMul, Int.reduceNeg, Int.reduceLT, Int.reduceLE, Int.reduceEq, Int.reduceNe, Int.reduceToNat, Int.reduceTMod, Int.reduceTDiv, Int.reduceFDiv, Int.reducePow, Nat.reduceMod, Nat.reduceAnd, Nat.reduceDiv, Nat.reducePow, ]; omega, fun id hid => by simp only [H.nx_put] at hid; simp (maxSteps := 2000000) (disch := omega) only [stp, ← decide_not, vEqz, eqz, vEqa, eqList, eqAtom, H.at, H.load, vBox, vNewSl, vBld, fill, Mx.part, vClear, vCopy, vBtos, source, lenV, V.isSl, Mx.room, slcut, cutOp, mkOp, bounds, natIn, H.kill, beq_self_eq_true, if_pos, if_neg, List.cons_append, List.nil_append, List.append_nil, List.length_cons, List.length_nil, List.length_set, List.take_succ_cons, List.take_zero, List.drop_succ_cons, List.drop_zero, List.take_nil, List.drop_nil, List.all_cons, List.all_nil, ite_self, if_true, if_false, ite_true, ite_false, reduceIte, reduceDIte, eq_self, ne_eq, gt_iff_lt, ge_iff_le, Option.map_some, Option.map_none, Nat.reduceAdd, Nat.reduceMul, Nat.reduceSub, Nat.reduceLT, Nat.reduceLeDiff, Nat.reduceEqDiff, Nat.reduceSucc, Int.reduceAdd, Int.reduceSub, Int.reduceMul, Int.reduceNeg, Int.reduceLT, Int.reduceLE, Int.reduceEq, Int.reduceNe, Int.reduceToNat, Int.reduceTMod, Int.reduceTDiv, Int.reduceFDiv, Int.reducePow, Nat.reduceMod, Nat.reduceAnd, Nat.reduceDiv, Nat.reducePow, ]⟩) hi (fun h' e => Qg' h' own2 ((A3.ext ⟨by simp (maxSteps := 2000000) (disch := omega) only [stp, ← decide_not, vEqz, eqz, vEqa, eqList, eqAtom, H.at, H.load, vBox, vNewSl, vBld, fill, Mx.part, vClear, vCopy, vBtos, source, lenV, V.isSl, Mx.room, slcut, cutOp, mkOp, bounds, natIn, H.kill, beq_self_eq_true, if_pos, if_neg, List.cons_append, List.nil_append, List.append_nil, List.length_cons, List.length_nil, List.length_set, List.take_succ_cons, List.take_zero, List.drop_succ_cons, List.drop_zero, List.take_nil, List.drop_nil, List.all_cons, List.all_nil, ite_self, if_true, if_false, ite_true, ite_false, reduceIte, reduceDIte, eq_self, ne_eq, gt_iff_lt, ge_iff_le, Option.map_some, Option.map_none, Nat.reduceAdd, Nat.reduceMul, Nat.reduceSub, Nat.reduceLT, Nat.reduceLeDiff, Nat.reduceEqDiff, Nat.reduceSucc, Int.reduceAdd, Int.reduceSub, Int.reduceMul, Int.reduceNeg, Int.reduceLT, Int.reduceLE, Int.reduceEq, Int.reduceNe, Int.reduceToNat, Int.reduceTMod, Int.reduceTDiv, Int.reduceFDiv, Int.reducePow, Nat.reduceMod, Nat.reduceAnd, Nat.reduceDiv, Nat.reducePow, ]; omega, fun id hid => by simp only [H.nx_put] at hid; simp (maxSteps := 2000000) (disch := omega) only [stp, ← decide_not, vEqz, eqz, vEqa, eqList, eqAtom, H.at, H.load, vBox, vNewSl, vBld, fill, Mx.part, vClear, vCopy, vBtos, source, lenV, V.isSl, Mx.room, slcut, cutOp, mkOp, bounds, natIn, H.kill, beq_self_eq_true, if_pos, if_neg, List.cons_append, List.nil_append, List.append_nil, List.length_cons, List.length_nil, List.length_set, List.take_succ_cons, List.take_zero, List.drop_succ_cons, List.drop_zero, List.take_nil, List.drop_nil, List.all_cons, List.all_nil, ite_self, if_true, if_false, ite_true, ite_false, reduceIte, reduceDIte, eq_self, ne_eq, gt_iff_lt, ge_iff_le, Option.map_some, Option.map_none, Nat.reduceAdd, Nat.reduceMul, Nat.reduceSub, Nat.reduceLT, Nat.reduceLeDiff, Nat.reduceEqDiff, Nat.reduceSucc, Int.reduceAdd, Int.reduceSub, Int.reduceMul, Int.reduceNeg, Int.reduceLT, Int.reduceLE, Int.reduceEq, Int.reduceNe, Int.reduceToNat, Int.reduceTMod, Int.reduceTDiv, Int.reduceFDiv, Int.reducePow, Nat.reduceMod, Nat.reduceAnd, Nat.reduceDiv, Nat.reducePow, ]⟩).ext e) ((p3.fr (Ext.fr ⟨by simp (maxSteps := 2000000) (disch := omega) only [stp, ← decide_not, vEqz, eqz, vEqa, eqList, eqAtom, H.at, H.load, vBox, vNewSl, vBld, fill, Mx.part, vClear, vCopy, vBtos, source, lenV, V.isSl, Mx.room, slcut, cutOp, mkOp, bounds, natIn, H.kill, beq_self_eq_true, if_pos, if_neg, List.cons_append, List.nil_append, List.append_nil, List.length_cons, List.length_nil, List.length_set, List.take_succ_cons, List.take_zero, List.drop_succ_cons, List.drop_zero, List.take_nil, List.drop_nil, List.all_cons, List.all_nil, ite_self, if_true, if_false, ite_true, ite_false, reduceIte, reduceDIte, eq_self, ne_eq, gt_iff_lt, ge_iff_le, Option.map_some, Option.map_none, Nat.reduceAdd, Nat.reduceMul, Nat.reduceSub, Nat.reduceLT, Nat.reduceLeDiff, Nat.reduceEqDiff, Nat.reduceSucc, Int.reduceAdd, Int.reduceSub, Int.reduceMul, Int.reduceNeg, Int.reduceLT, Int.reduceLE, Int.reduceEq, Int.reduceNe, Int.reduceToNat, Int.reduceTMod, Int.reduceTDiv, Int.reduceFDiv, Int.reducePow, Nat.reduceMod, Nat.reduceAnd, Nat.reduceDiv, Nat.reducePow, ]; omega, fun id hid => by simp only [H.nx_put] at hid; simp (maxSteps := 2000000) (disch := omega) only [stp, ← decide_not, vEqz, eqz, vEqa, eqList, eqAtom, H.at, H.load, vBox, vNewSl, vBld, fill, Mx.part, vClear, vCopy, vBtos, source, lenV, V.isSl, Mx.room, slcut, cutOp, mkOp, bounds, natIn, H.kill, beq_self_eq_true, if_pos, if_neg, List.cons_append, List.nil_append, List.append_nil, List.length_cons, List.length_nil, List.length_set, List.take_succ_cons, List.take_zero, List.drop_succ_cons, List.drop_zero, List.take_nil, List.drop_nil, List.all_cons, List.all_nil, ite_self, if_true, if_false, ite_true, ite_false, reduceIte, reduceDIte, eq_self, ne_eq, gt_iff_lt, ge_iff_le, Option.map_some, Option.map_none, Nat.reduceAdd, Nat.reduceMul, Nat.reduceSub, Nat.reduceLT, Nat.reduceLeDiff, Nat.reduceEqDiff, Nat.reduceSucc, Int.reduceAdd, Int.reduceSub, Int.reduceMul, Int.reduceNeg, Int.reduceLT, Int.reduceLE, Int.reduceEq, Int.reduceNe, Int.reduceToNat, Int.reduceTMod, Int.reduceTDiv, Int.reduceFDiv, Int.reducePow, Nat.reduceMod, Nat.reduceAnd, Nat.reduceDiv, Nat.reducePow, ]⟩ own2)).fr (e.fr own2)))
  · have hy := tr_lay (k := k) hw hs (r := tsk 0 2 s (sn s) (s + 10 * sn s) t' a' false true) rfl
    have hcut2 := tr_cut (k := k) (hw' (tsk 0 2 s (sn s) (s + 10 * sn s) t' a' false true) rfl) hs
    rw [upd_at] at hcut2
    have hwn := hw' (tsk 0 2 s (sn s) (s + 10 * sn s) t' a' false true) rfl
    have p3 := p2.putT (upd tg s (tsk 0 2 s (sn s) (s + 10 * sn s) t' a' false true))
    have A3 := a2.put p2.t.2.1 (some ⟨false, Tr2 k (upd tg s (tsk 0 2 s (sn s) (s + 10 * sn s) t' a' false true))⟩)
    have Qg' := fun h' own' => Qg h' own' _ _ (.inr (.inl ⟨rfl, rfl, rfl⟩))
    unfold tsk at hy hcut2 p3 A3 hwn Qg' ⊢
    simp (maxSteps := 2000000) (disch := omega) only [stp, ← decide_not, vEqz, eqz, vEqa, eqList, eqAtom, H.at, H.load, vBox, vNewSl, vBld, fill, Mx.part, vClear, vCopy, vBtos, source, lenV, V.isSl, Mx.room, slcut, cutOp, mkOp, bounds, natIn, H.kill, beq_self_eq_true, if_pos, if_neg, List.cons_append, List.nil_append, List.append_nil, List.length_cons, List.length_nil, List.length_set, List.take_succ_cons, List.take_zero, List.drop_succ_cons, List.drop_zero, List.take_nil, List.drop_nil, List.all_cons, List.all_nil, ite_self, if_true, if_false, ite_true, ite_false, reduceIte, reduceDIte, eq_self, ne_eq, gt_iff_lt, ge_iff_le, Option.map_some, Option.map_none, Nat.reduceAdd, Nat.reduceMul, Nat.reduceSub, Nat.reduceLT, Nat.reduceLeDiff, Nat.reduceEqDiff, Nat.reduceSucc, Int.reduceAdd, Int.reduceSub, Int.reduceMul, Int.reduceNeg, Int.reduceLT, Int.reduceLE, Int.reduceEq, Int.reduceNe, Int.reduceToNat, Int.reduceTMod, Int.reduceTDiv, Int.reduceFDiv, Int.reducePow, Nat.reduceMod, Nat.reduceAnd, Nat.reduceDiv, Nat.reducePow, t2, hl, hy, hcut2, f53, K53]
    refine m9 (tg := upd tg s _) (A3.ext ⟨by simp (maxSteps := 2000000) (disch := omega) only [stp, ← decide_not, vEqz, eqz, vEqa, eqList, eqAtom, H.at, H.load, vBox, vNewSl, vBld, fill, Mx.part, vClear, vCopy, vBtos, source, lenV, V.isSl, Mx.room, slcut, cutOp, mkOp, bounds, natIn, H.kill, beq_self_eq_true, if_pos, if_neg, List.cons_append, List.nil_append, List.append_nil, List.length_cons, List.length_nil, List.length_set, List.take_succ_cons, List.take_zero, List.drop_succ_cons, List.drop_zero, List.take_nil, List.drop_nil, List.all_cons, List.all_nil, ite_self, if_true, if_false, ite_true, ite_false, reduceIte, reduceDIte, eq_self, ne_eq, gt_iff_lt, ge_iff_le, Option.map_some, Option.map_none, Nat.reduceAdd, Nat.reduceMul, Nat.reduceSub, Nat.reduceLT, Nat.reduceLeDiff, Nat.reduceEqDiff, Nat.reduceSucc, Int.reduceAdd, Int.reduceSub, Int.reduceMul, Int.reduceNeg, Int.reduceLT, Int.reduceLE, Int.reduceEq, Int.reduceNe, Int.reduceToNat, Int.reduceTMod, Int.reduceTDiv, Int.reduceFDiv, Int.reducePow, Nat.reduceMod, Nat.reduceAnd, Nat.reduceDiv, Nat.reducePow, ]; omega, fun id hid => by simp only [H.nx_put] at hid; simp (maxSteps := 2000000) (disch := omega) only [stp, ← decide_not, vEqz, eqz, vEqa, eqList, eqAtom, H.at, H.load, vBox, vNewSl, vBld, fill, Mx.part, vClear, vCopy, vBtos, source, lenV, V.isSl, Mx.room, slcut, cutOp, mkOp, bounds, natIn, H.kill, beq_self_eq_true, if_pos, if_neg, List.cons_append, List.nil_append, List.append_nil, List.length_cons, List.length_nil, List.length_set, List.take_succ_cons, List.take_zero, List.drop_succ_cons, List.drop_zero, List.take_nil, List.drop_nil, List.all_cons, List.all_nil, ite_self, if_true, if_false, ite_true, ite_false, reduceIte, reduceDIte, eq_self, ne_eq, gt_iff_lt, ge_iff_le, Option.map_some, Option.map_none, Nat.reduceAdd, Nat.reduceMul, Nat.reduceSub, Nat.reduceLT, Nat.reduceLeDiff, Nat.reduceEqDiff, Nat.reduceSucc, Int.reduceAdd, Int.reduceSub, Int.reduceMul, Int.reduceNeg, Int.reduceLT, Int.reduceLE, Int.reduceEq, Int.reduceNe, Int.reduceToNat, Int.reduceTMod, Int.reduceTDiv, Int.reduceFDiv, Int.reducePow, Nat.reduceMod, Nat.reduceAnd, Nat.reduceDiv, Nat.reducePow, ]⟩) (p3.fr (Ext.fr ⟨by simp (maxSteps := 2000000) (disch := omega) only [stp, ← decide_not, vEqz, eqz, vEqa, eqList, eqAtom, H.at, H.load, vBox, vNewSl, vBld, fill, Mx.part, vClear, vCopy, vBtos, source, lenV, V.isSl, Mx.room, slcut, cutOp, mkOp, bounds, natIn, H.kill, beq_self_eq_true, if_pos, if_neg, List.cons_append, List.nil_append, List.append_nil, List.length_cons, List.length_nil, List.length_set, List.take_succ_cons, List.take_zero, List.drop_succ_cons, List.drop_zero, List.take_nil, List.drop_nil, List.all_cons, List.all_nil, ite_self, if_true, if_false, ite_true, ite_false, reduceIte, reduceDIte, eq_self, ne_eq, gt_iff_lt, ge_iff_le, Option.map_some, Option.map_none, Nat.reduceAdd, Nat.reduceMul, Nat.reduceSub, Nat.reduceLT, Nat.reduceLeDiff, Nat.reduceEqDiff, Nat.reduceSucc, Int.reduceAdd, Int.reduceSub, Int.reduceMul, Int.reduceNeg, Int.reduceLT, Int.reduceLE, Int.reduceEq, Int.reduceNe, Int.reduceToNat, Int.reduceTMod, Int.reduceTDiv, Int.reduceFDiv, Int.reducePow, Nat.reduceMod, Nat.reduceAnd, Nat.reduceDiv, Nat.reducePow, ]; omega, fun id hid => by simp only [H.nx_put] at hid; simp (maxSteps := 2000000) (disch := omega) only [stp, ← decide_not, vEqz, eqz, vEqa, eqList, eqAtom, H.at, H.load, vBox, vNewSl, vBld, fill, Mx.part, vClear, vCopy, vBtos, source, lenV, V.isSl, Mx.room, slcut, cutOp, mkOp, bounds, natIn, H.kill, beq_self_eq_true, if_pos, if_neg, List.cons_append, List.nil_append, List.append_nil, List.length_cons, List.length_nil, List.length_set, List.take_succ_cons, List.take_zero, List.drop_succ_cons, List.drop_zero, List.take_nil, List.drop_nil, List.all_cons, List.all_nil, ite_self, if_true, if_false, ite_true, ite_false, reduceIte, reduceDIte, eq_self, ne_eq, gt_iff_lt, ge_iff_le, Option.map_some, Option.map_none, Nat.reduceAdd, Nat.reduceMul, Nat.reduceSub, Nat.reduceLT, Nat.reduceLeDiff, Nat.reduceEqDiff, Nat.reduceSucc, Int.reduceAdd, Int.reduceSub, Int.reduceMul, Int.reduceNeg, Int.reduceLT, Int.reduceLE, Int.reduceEq, Int.reduceNe, Int.reduceToNat, Int.reduceTMod, Int.reduceTDiv, Int.reduceFDiv, Int.reducePow, Nat.reduceMod, Nat.reduceAnd, Nat.reduceDiv, Nat.reducePow, ]⟩ own2)) hwn hi hk hs (by omega) (fun h' A P => Qg' h' own2 A (by unfold tsk at P; exact P))
  · have hy := tr_lay (k := k) hw hs (r := tsk 0 2 s (sn s) (s + 10 * sn s) t' 7 false false) rfl
    have hcut2 := tr_cut (k := k) (hw' (tsk 0 2 s (sn s) (s + 10 * sn s) t' 7 false false) rfl) hs
    rw [upd_at] at hcut2
    have hwn := hw' (tsk 0 2 s (sn s) (s + 10 * sn s) t' 7 false false) rfl
    have p3 := p2.putT (upd tg s (tsk 0 2 s (sn s) (s + 10 * sn s) t' 7 false false))
    have A3 := a2.put p2.t.2.1 (some ⟨false, Tr2 k (upd tg s (tsk 0 2 s (sn s) (s + 10 * sn s) t' 7 false false))⟩)
    have Qg' := fun h' own' => Qg h' own' _ _ (.inr (.inr ⟨rfl, rfl, rfl⟩))
    have s2 := p2.s.2.2
    have hsn := p2.s.1
    have htn := p2.t.1
    have hg := nr_get sn hs
    have hns := nr_lay sn (sn s + 1) hs
    have hnl := nr_len k sn
    unfold tsk at hy hcut2 p3 A3 hwn Qg' ⊢
    have e2 : ((sn s + 1 : Nat) : Int) = sn s + 1 := by omega
    rw [e2] at hns
    simp (maxSteps := 2000000) (disch := omega) only [stp, ← decide_not, vEqz, eqz, vEqa, eqList, eqAtom, H.at, H.load, vBox, vNewSl, vBld, fill, Mx.part, vClear, vCopy, vBtos, source, lenV, V.isSl, Mx.room, slcut, cutOp, mkOp, bounds, natIn, H.kill, beq_self_eq_true, if_pos, if_neg, List.cons_append, List.nil_append, List.append_nil, List.length_cons, List.length_nil, List.length_set, List.take_succ_cons, List.take_zero, List.drop_succ_cons, List.drop_zero, List.take_nil, List.drop_nil, List.all_cons, List.all_nil, ite_self, if_true, if_false, ite_true, ite_false, reduceIte, reduceDIte, eq_self, ne_eq, gt_iff_lt, ge_iff_le, Option.map_some, Option.map_none, Nat.reduceAdd, Nat.reduceMul, Nat.reduceSub, Nat.reduceLT, Nat.reduceLeDiff, Nat.reduceEqDiff, Nat.reduceSucc, Int.reduceAdd, Int.reduceSub, Int.reduceMul, Int.reduceNeg, Int.reduceLT, Int.reduceLE, Int.reduceEq, Int.reduceNe, Int.reduceToNat, Int.reduceTMod, Int.reduceTDiv, Int.reduceFDiv, Int.reducePow, Nat.reduceMod, Nat.reduceAnd, Nat.reduceDiv, Nat.reducePow, t2, hl, hy, hcut2, f53, K53, s2, hg, hnl, hns]
    refine m9 (tg := upd tg s _) (sn := upd sn s (sn s + 1)) ((A3.ext (ext_new _ _)).put p2.s.2.1 _) ((p3.fr (Ext.fr (ext_new _ _) own2)).putS (upd sn s (sn s + 1))) hwn hi hk hs (by rw [upd_at]; omega) (fun h' A P => Qg' h' own2 A (by unfold tsk at P; rw [upd_at] at P; exact P))
end
section
variable {h : H} {own : Nat → Prop} {ra rr tr sr er ur k i : Nat} {l : V} {lr : List (List V)} {tg : Nat → List V} {sn se : Nat → Nat} {f f' : Nat → Int} {ts : List Int} {c : Int} {ct cs ce : Cap} {hd : Nat} {q : Hid (V → H → Prop)} {g : Hid (V → V → V → V → V → V → V → V → V → V → H → Prop)}
/-- the one who fetches does a step that is not its last -/
theorem m7f {w0 w1 w2 fa b0 b1 b2 fa' : Int} {em : Bool} (a : Ar h ra 9 f ts 0 own) (p : Hp h own rr tr sr er ur k l lr tg sn se (fsk 0 2 hd w0 w1 w2 fa false)) (hi : i < 400)
    (D : FDoes ra 9 (fsk 0 2 hd w0 w1 w2 fa false) (fsk 0 2 hd b0 b1 b2 fa' em) f f' c 0) (hc : em = false ∧ fa' ≠ 5 ∨ em = true)
    (Qg : ∀ h' own' v0 v1 v2 va, (em = false ∧ fa' ≠ 5 ∧ v0 = b0 ∧ v1 = b1 ∧ v2 = b2 ∧ va = fa' ∨ em = true ∧ v0 = 0 ∧ v1 = 0 ∧ v2 = 0 ∧ va = 0) →
      Ar h' ra 9 f' [c] 0 own' → Hp h' own' rr tr sr er ur k l lr tg sn se (fsk 0 2 hd v0 v1 v2 va false) → g.un l (.p (some (rr, 0))) (.p (some (ra, 0))) (.i .i64 k) (.sl tr 0 k ct) (.sl sr 0 k cs) (.sl er 0 k ce) (.p (some (ur, 0))) (.i .u64 hd) (.i .i64 (i + 1 : Nat)) h') :
    @K10_7 l (.p (some (rr, 0))) (.p (some (ra, 0))) (.i .i64 k) (.sl tr 0 k ct) (.sl sr 0 k cs) (.sl er 0 k ce) (.p (some (ur, 0))) (.i .u64 hd) (.i .i64 i) (.i .i64 k) h q g := by
  simp (maxSteps := 2000000) (disch := omega) only [stp, ← decide_not, vEqz, eqz, vEqa, eqList, eqAtom, H.at, H.load, vBox, vNewSl, vBld, fill, Mx.part, vClear, vCopy, vBtos, source, lenV, V.isSl, Mx.room, slcut, cutOp, mkOp, bounds, natIn, H.kill, beq_self_eq_true, if_pos, if_neg, List.cons_append, List.nil_append, List.append_nil, List.length_cons, List.length_nil, List.length_set, List.take_succ_cons, List.take_zero, List.drop_succ_cons, List.drop_zero, List.take_nil, List.drop_nil, List.all_cons, List.all_nil, ite_self, if_true, if_false, ite_true, ite_false, reduceIte, reduceDIte, eq_self, ne_eq, gt_iff_lt, ge_iff_le, Option.map_some, Option.map_none, Nat.reduceAdd, Nat.reduceMul, Nat.reduceSub, Nat.reduceLT, Nat.reduceLeDiff, Nat.reduceEqDiff, Nat.reduceSucc, Int.reduceAdd, Int.reduceSub, Int.reduceMul, Int.reduceNeg, Int.reduceLT, Int.reduceLE, Int.reduceEq, Int.reduceNe, Int.reduceToNat, Int.reduceTMod, Int.reduceTDiv, Int.reduceFDiv, Int.reducePow, Nat.reduceMod, Nat.reduceAnd, Nat.reduceDiv, Nat.reducePow, K10_7]
  refine abegin a (fun h1 a1 fr1 => ?_)
  have p1 := p.fr fr1
  have ho := p.o
  have u1 := p1.u.2.2
  unfold fsk at u1
  simp (maxSteps := 2000000) (disch := omega) only [stp, ← decide_not, vEqz, eqz, vEqa, eqList, eqAtom, H.at, H.load, vBox, vNewSl, vBld, fill, Mx.part, vClear, vCopy, vBtos, source, lenV, V.isSl, Mx.room, slcut, cutOp, mkOp, bounds, natIn, H.kill, beq_self_eq_true, if_pos, if_neg, List.cons_append, List.nil_append, List.append_nil, List.length_cons, List.length_nil, List.length_set, List.take_succ_cons, List.take_zero, List.drop_succ_cons, List.drop_zero, List.take_nil, List.drop_nil, List.all_cons, List.all_nil, ite_self, if_true, if_false, ite_true, ite_false, reduceIte, reduceDIte, eq_self, ne_eq, gt_iff_lt, ge_iff_le, Option.map_some, Option.map_none, Nat.reduceAdd, Nat.reduceMul, Nat.reduceSub, Nat.reduceLT, Nat.reduceLeDiff, Nat.reduceEqDiff, Nat.reduceSucc, Int.reduceAdd, Int.reduceSub, Int.reduceMul, Int.reduceNeg, Int.reduceLT, Int.reduceLE, Int.reduceEq, Int.reduceNe, Int.reduceToNat, Int.reduceTMod, Int.reduceTDiv, Int.reduceFDiv, Int.reducePow, Nat.reduceMod, Nat.reduceAnd, Nat.reduceDiv, Nat.reducePow, u1]
  refine D h1 own _ a1 (fun h2 own2 a2 fr2 => ?_)
  have p2 := p1.fr fr2
  have u2 := p2.u.2.2
  have A3 := a2.put p2.u.2.1 (some ⟨false, fsk 0 2 hd b0 b1 b2 fa' em⟩)
  have p3 := p2.putU (fsk 0 2 hd b0 b1 b2 fa' em)
  unfold fsk at u2
  rcases hc with ⟨rfl, h5⟩ | rfl
  · have Qg' := fun h' own' => Qg h' own' _ _ _ _ (.inl ⟨rfl, h5, rfl, rfl, rfl, rfl⟩)
    unfold fsk at A3 p3 Qg' ⊢
    simp (maxSteps := 2000000) (disch := omega) only [stp, ← decide_not, vEqz, eqz, vEqa, eqList, eqAtom, H.at, H.load, vBox, vNewSl, vBld, fill, Mx.part, vClear, vCopy, vBtos, source, lenV, V.isSl, Mx.room, slcut, cutOp, mkOp, bounds, natIn, H.kill, beq_self_eq_true, if_pos, if_neg, List.cons_append, List.nil_append, List.append_nil, List.length_cons, List.length_nil, List.length_set, List.take_succ_cons, List.take_zero, List.drop_succ_cons, List.drop_zero, List.take_nil, List.drop_nil, List.all_cons, List.all_nil, ite_self, if_true, if_false, ite_true, ite_false, reduceIte, reduceDIte, eq_self, ne_eq, gt_iff_lt, ge_iff_le, Option.map_some, Option.map_none, Nat.reduceAdd, Nat.reduceMul, Nat.reduceSub, Nat.reduceLT, Nat.reduceLeDiff, Nat.reduceEqDiff, Nat.reduceSucc, Int.reduceAdd, Int.reduceSub, Int.reduceMul, Int.reduceNeg, Int.reduceLT, Int.reduceLE, Int.reduceEq, Int.reduceNe, Int.reduceToNat, Int.reduceTMod, Int.reduceTDiv, Int.reduceFDiv, Int.reducePow, Nat.reduceMod, Nat.reduceAnd, Nat.reduceDiv, Nat.reducePow, u2, f55, K55]
    exact m8 (A3.ext (ext_new _ _)) hi (fun h' e => Qg' h' own2 ((A3.ext (ext_new _ _)).ext e) ((p3.fr (Ext.fr (ext_new _ _) own2)).fr (e.fr own2)))
  · have Qg' := fun h' own' => Qg h' own' _ _ _ _ (.inr ⟨rfl, rfl, rfl, rfl, rfl⟩)
    unfold fsk at A3 p3 ⊢
    simp (maxSteps := 2000000) (disch := omega) only [stp, ← decide_not, vEqz, eqz, vEqa, eqList, eqAtom, H.at, H.load, vBox, vNewSl, vBld, fill, Mx.part, vClear, vCopy, vBtos, source, lenV, V.isSl, Mx.room, slcut, cutOp, mkOp, bounds, natIn, H.kill, beq_self_eq_true, if_pos, if_neg, List.cons_append, List.nil_append, List.append_nil, List.length_cons, List.length_nil, List.length_set, List.take_succ_cons, List.take_zero, List.drop_succ_cons, List.drop_zero, List.take_nil, List.drop_nil, List.all_cons, List.all_nil, ite_self, if_true, if_false, ite_true, ite_false, reduceIte, reduceDIte, eq_self, ne_eq, gt_iff_lt, ge_iff_le, Option.map_some, Option.map_none, Nat.reduceAdd, Nat.reduceMul, Nat.reduceSub, Nat.reduceLT, Nat.reduceLeDiff, Nat.reduceEqDiff, Nat.reduceSucc, Int.reduceAdd, Int.reduceSub, Int.reduceMul, Int.reduceNeg, Int.reduceLT, Int.reduceLE, Int.reduceEq, Int.reduceNe, Int.reduceToNat, Int.reduceTMod, Int.reduceTDiv, Int.reduceFDiv, Int.reducePow, Nat.reduceMod, Nat.reduceAnd, Nat.reduceDiv, Nat.reducePow, u2, f55, K55]
    exact m10 (A3.ext (ext_new _ _)) (p3.fr (Ext.fr (ext_new _ _) own2)) rfl hi (fun h' A P => Qg' h' own2 A P)
/-- and its last -/
theorem m7g {w0 w1 w2 : Int} {s : Nat} (a : Ar h ra 9 f ts 0 own) (p : Hp h own rr tr sr er ur k l lr tg sn se (fsk 0 2 hd w0 w1 w2 4 false)) (hi : i < 400) (hk : k ≤ 3) (hs : s < k) (hb : se s < 400) (hhd : hd < 400)
    (D : FDoes ra 9 (fsk 0 2 hd w0 w1 w2 4 false) (fsk 0 2 hd s (se s) (s + 10 * se s) 5 false) f f' c 0)
    (Qg : ∀ h' own', Ar h' ra 9 f' [c] 0 own' → Hp h' own' rr tr sr er ur k l lr tg sn (upd se s (se s + 1)) (fsk 0 2 (hd + 1 : Nat) 0 0 0 0 false) → g.un l (.p (some (rr, 0))) (.p (some (ra, 0))) (.i .i64 k) (.sl tr 0 k ct) (.sl sr 0 k cs) (.sl er 0 k ce) (.p (some (ur, 0))) (.i .u64 (hd + 1 : Nat)) (.i .i64 (i + 1 : Nat)) h') :
    @K10_7 l (.p (some (rr, 0))) (.p (some (ra, 0))) (.i .i64 k) (.sl tr 0 k ct) (.sl sr 0 k cs) (.sl er 0 k ce) (.p (some (ur, 0))) (.i .u64 hd) (.i .i64 i) (.i .i64 k) h q g := by
  simp (maxSteps := 2000000) (disch := omega) only [stp, ← decide_not, vEqz, eqz, vEqa, eqList, eqAtom, H.at, H.load, vBox, vNewSl, vBld, fill, Mx.part, vClear, vCopy, vBtos, source, lenV, V.isSl, Mx.room, slcut, cutOp, mkOp, bounds, natIn, H.kill, beq_self_eq_true, if_pos, if_neg, List.cons_append, List.nil_append, List.append_nil, List.length_cons, List.length_nil, List.length_set, List.take_succ_cons, List.take_zero, List.drop_succ_cons, List.drop_zero, List.take_nil, List.drop_nil, List.all_cons, List.all_nil, ite_self, if_true, if_false, ite_true, ite_false, reduceIte, reduceDIte, eq_self, ne_eq, gt_iff_lt, ge_iff_le, Option.map_some, Option.map_none, Nat.reduceAdd, Nat.reduceMul, Nat.reduceSub, Nat.reduceLT, Nat.reduceLeDiff, Nat.reduceEqDiff, Nat.reduceSucc, Int.reduceAdd, Int.reduceSub, Int.reduceMul, Int.reduceNeg, Int.reduceLT, Int.reduceLE, Int.reduceEq, Int.reduceNe, Int.reduceToNat, Int.reduceTMod, Int.reduceTDiv, Int.reduceFDiv, Int.reducePow, Nat.reduceMod, Nat.reduceAnd, Nat.reduceDiv, Nat.reducePow, K10_7]
  refine abegin a (fun h1 a1 fr1 => ?_)
  have p1 := p.fr fr1
  have ho := p.o
  have u1 := p1.u.2.2
  unfold fsk at u1
  simp (maxSteps := 2000000) (disch := omega) only [stp, ← decide_not, vEqz, eqz, vEqa, eqList, eqAtom, H.at, H.load, vBox, vNewSl, vBld, fill, Mx.part, vClear, vCopy, vBtos, source, lenV, V.isSl, Mx.room, slcut, cutOp, mkOp, bounds, natIn, H.kill, beq_self_eq_true, if_pos, if_neg, List.cons_append, List.nil_append, List.append_nil, List.length_cons, List.length_nil, List.length_set, List.take_succ_cons, List.take_zero, List.drop_succ_cons, List.drop_zero, List.take_nil, List.drop_nil, List.all_cons, List.all_nil, ite_self, if_true, if_false, ite_true, ite_false, reduceIte, reduceDIte, eq_self, ne_eq, gt_iff_lt, ge_iff_le, Option.map_some, Option.map_none, Nat.reduceAdd, Nat.reduceMul, Nat.reduceSub, Nat.reduceLT, Nat.reduceLeDiff, Nat.reduceEqDiff, Nat.reduceSucc, Int.reduceAdd, Int.reduceSub, Int.reduceMul, Int.reduceNeg, Int.reduceLT, Int.reduceLE, Int.reduceEq, Int.reduceNe, Int.reduceToNat, Int.reduceTMod, Int.reduceTDiv, Int.reduceFDiv, Int.reducePow, Nat.reduceMod, Nat.reduceAnd, Nat.reduceDiv, Nat.reducePow, u1]
  refine D h1 own _ a1 (fun h2 own2 a2 fr2 => ?_)
  have p2 := p1.fr fr2
  have u2 := p2.u.2.2
  have A3 := a2.put p2.u.2.1 (some ⟨false, fsk 0 2 hd s (se s) (s + 10 * se s) 5 false⟩)
  have p3 := p2.putU (fsk 0 2 hd s (se s) (s + 10 * se s) 5 false)
  have e2 := p2.e.2.2
  have hen := p2.e.1
  have hun := p2.u.1
  have hg := nr_get se hs
  have hns := nr_lay se (se s + 1) hs
  have hnl := nr_len k se
  have hx : ((se s + 1 : Nat) : Int) = se s + 1 := by omega
  rw [hx] at hns
  have hl3 : land .u64 (s : Int) 3 = s := by
    rcases (by omega : s = 0 ∨ s = 1 ∨ s = 2) with rfl | rfl | rfl <;> kernel_rfl
  unfold fsk at u2 A3 p3 ⊢
  simp (maxSteps := 2000000) (disch := omega) only [stp, ← decide_not, vEqz, eqz, vEqa, eqList, eqAtom, H.at, H.load, vBox, vNewSl, vBld, fill, Mx.part, vClear, vCopy, vBtos, source, lenV, V.isSl, Mx.room, slcut, cutOp, mkOp, bounds, natIn, H.kill, beq_self_eq_true, if_pos, if_neg, List.cons_append, List.nil_append, List.append_nil, List.length_cons, List.length_nil, List.length_set, List.take_succ_cons, List.take_zero, List.drop_succ_cons, List.drop_zero, List.take_nil, List.drop_nil, List.all_cons, List.all_nil, ite_self, if_true, if_false, ite_true, ite_false, reduceIte, reduceDIte, eq_self, ne_eq, gt_iff_lt, ge_iff_le, Option.map_some, Option.map_none, Nat.reduceAdd, Nat.reduceMul, Nat.reduceSub, Nat.reduceLT, Nat.reduceLeDiff, Nat.reduceEqDiff, Nat.reduceSucc, Int.reduceAdd, Int.reduceSub, Int.reduceMul, Int.reduceNeg, Int.reduceLT, Int.reduceLE, Int.reduceEq, Int.reduceNe, Int.reduceToNat, Int.reduceTMod, Int.reduceTDiv, Int.reduceFDiv, Int.reducePow, Nat.reduceMod, Nat.reduceAnd, Nat.reduceDiv, Nat.reducePow, u2, f55, K55, f56, K56, hl3, e2, hg, K10_22, K10_21, K10_20, K10_12, K10_11, hns, hnl]
  refine m10 (hd := (hd : Int) + 1) (Ar.put (Ar.ext A3 ?E) p2.e.2.1 _) (Hp.putE (Hp.fr p3 (Ext.fr ?E own2)) (upd se s (se s + 1))) rfl hi (fun h' A P => Qg h' own2 A P)
  exact ⟨by simp (maxSteps := 2000000) (disch := omega) only [stp, ← decide_not, vEqz, eqz, vEqa, eqList, eqAtom, H.at, H.load, vBox, vNewSl, vBld, fill, Mx.part, vClear, vCopy, vBtos, source, lenV, V.isSl, Mx.room, slcut, cutOp, mkOp, bounds, natIn, H.kill, beq_self_eq_true, if_pos, if_neg, List.cons_append, List.nil_append, List.append_nil, List.length_cons, List.length_nil, List.length_set, List.take_succ_cons, List.take_zero, List.drop_succ_cons, List.drop_zero, List.take_nil, List.drop_nil, List.all_cons, List.all_nil, ite_self, if_true, if_false, ite_true, ite_false, reduceIte, reduceDIte, eq_self, ne_eq, gt_iff_lt, ge_iff_le, Option.map_some, Option.map_none, Nat.reduceAdd, Nat.reduceMul, Nat.reduceSub, Nat.reduceLT, Nat.reduceLeDiff, Nat.reduceEqDiff, Nat.reduceSucc, Int.reduceAdd, Int.reduceSub, Int.reduceMul, Int.reduceNeg, Int.reduceLT, Int.reduceLE, Int.reduceEq, Int.reduceNe, Int.reduceToNat, Int.reduceTMod, Int.reduceTDiv, Int.reduceFDiv, Int.reducePow, Nat.reduceMod, Nat.reduceAnd, Nat.reduceDiv, Nat.reducePow, ]; omega, fun id hid => by simp only [H.nx_put] at hid; simp (maxSteps := 2000000) (disch := omega) only [stp, ← decide_not, vEqz, eqz, vEqa, eqList, eqAtom, H.at, H.load, vBox, vNewSl, vBld, fill, Mx.part, vClear, vCopy, vBtos, source, lenV, V.isSl, Mx.room, slcut, cutOp, mkOp, bounds, natIn, H.kill, beq_self_eq_true, if_pos, if_neg, List.cons_append, List.nil_append, List.append_nil, List.length_cons, List.length_nil, List.length_set, List.take_succ_cons, List.take_zero, List.drop_succ_cons, List.drop_zero, List.take_nil, List.drop_nil, List.all_cons, List.all_nil, ite_self, if_true, if_false, ite_true, ite_false, reduceIte, reduceDIte, eq_self, ne_eq, gt_iff_lt, ge_iff_le, Option.map_some, Option.map_none, Nat.reduceAdd, Nat.reduceMul, Nat.reduceSub, Nat.reduceLT, Nat.reduceLeDiff, Nat.reduceEqDiff, Nat.reduceSucc, Int.reduceAdd, Int.reduceSub, Int.reduceMul, Int.reduceNeg, Int.reduceLT, Int.reduceLE, Int.reduceEq, Int.reduceNe, Int.reduceToNat, Int.reduceTMod, Int.reduceTDiv, Int.reduceFDiv, Int.reducePow, Nat.reduceMod, Nat.reduceAnd, Nat.reduceDiv, Nat.reducePow, ]⟩
end
/-! ### a step, with what it means -/
theorem upd_same {α : Type} (g : Nat → α) (s : Nat) : upd g s (g s) = g := by
  funext j
  unfold upd
  by_cases h : j = s
  · rw [if_pos h, h]
  · rw [if_neg h]
def tgf (sn : Nat → Nat) (tt at_ : Nat → Int) : Nat → List V := fun s => tsk 0 2 s (sn s) (s + 10 * sn s) (tt s) (at_ s) false false
theorem tgf_len (sn : Nat → Nat) (tt at_ : Nat → Int) (s : Nat) : (tgf sn tt at_ s).length = 9 := rfl
theorem tgf_upd (sn : Nat → Nat) (tt at_ : Nat → Int) (s : Nat) (t a : Int) : upd (tgf sn tt at_) s (tsk 0 2 s (sn s) (s + 10 * sn s) t a false false) = tgf sn (upd tt s t) (upd at_ s a) := by
  funext j
  unfold upd tgf
  by_cases h : j = s
  · subst h; simp only [if_true]
  · simp only [if_neg h]
theorem tgf_upd2 (sn : Nat → Nat) (tt at_ : Nat → Int) (s : Nat) (r : List V) (t a : Int) : upd (upd (tgf sn tt at_) s r) s (tsk 0 2 s (sn s) (s + 10 * sn s) t a false false) = tgf sn (upd tt s t) (upd at_ s a) := by
  funext j
  unfold upd tgf
  by_cases h : j = s
  · subst h; simp only [if_true]
  · simp only [if_neg h]
theorem tgf_upd3 (sn : Nat → Nat) (tt at_ : Nat → Int) (s n : Nat) (r : List V) (t a : Int) : upd (upd (tgf sn tt at_) s r) s (tsk 0 2 s (n : Nat) (s + 10 * (n : Nat)) t a false false) = tgf (upd sn s n) (upd tt s t) (upd at_ s a) := by
  funext j
  unfold upd tgf
  by_cases h : j = s
  · subst h; simp only [if_true]
  · simp only [if_neg h]
def Stt (ra rr tr sr er ur k : Nat) (l : V) (lr : List (List V)) (i hd : Nat) (h : H) : Prop :=
  ∃ (f : Nat → Int) (ts : List Int) (own : Nat → Prop) (sn se : Nat → Nat) (tt at_ : Nat → Int) (fa a0 a1 a2 : Int) (Q : List (Nat × Nat)), Ar h ra 9 f ts 0 own ∧ Hp h own rr tr sr er ur k l lr (tgf sn tt at_) sn se (fsk 0 2 hd a0 a1 a2 fa false) ∧ Iv k f sn se tt at_ hd fa a0 a1 a2 Q ∧ (∀ s, s < k → sn s ≤ i ∧ se s ≤ i) ∧ hd ≤ i
theorem isP2 : isP 2 := by unfold isP; omega
section
variable {h : H} {ra rr tr sr er ur k i : Nat} {l : V} {lr : List (List V)} {ct cs ce : Cap} {hd : Nat} {q : Hid (V → H → Prop)} {g : Hid (V → V → V → V → V → V → V → V → V → V → H → Prop)}
theorem k7s (S : Stt ra rr tr sr er ur k l lr i hd h) (hi : i < 400) (hk : k ≤ 3) {s : Nat} (hs : s < k)
    (Qg : ∀ h', Stt ra rr tr sr er ur k l lr (i + 1) hd h' → g.un l (.p (some (rr, 0))) (.p (some (ra, 0))) (.i .i64 k) (.sl tr 0 k ct) (.sl sr 0 k cs) (.sl er 0 k ce) (.p (some (ur, 0))) (.i .u64 hd) (.i .i64 (i + 1 : Nat)) h') :
    @K10_7 l (.p (some (rr, 0))) (.p (some (ra, 0))) (.i .i64 k) (.sl tr 0 k ct) (.sl sr 0 k cs) (.sl er 0 k ce) (.p (some (ur, 0))) (.i .u64 hd) (.i .i64 i) (.i .i64 s) h q g := by
  obtain ⟨f, ts, own, sn, se, tt, at_, fa, a0, a1, a2, Q, a, p, v, hb, hh⟩ := S
  obtain ⟨b1, b2, b3, b4, b5, b6⟩ := v.st s hs
  have hlen := v.len
  have hbs := hb s hs
  have hb' : ∀ s, s < k → sn s ≤ i + 1 ∧ se s ≤ i + 1 := fun s hs => by have := hb s hs; omega
  have hT : tgf sn tt at_ s = tsk 0 2 s (sn s) (s + 10 * sn s) (tt s) (at_ s) false false := rfl
  have soft : ∀ {f' : Nat → Int} {c t' a' : Int}, Does ra 9 (tsk 0 2 s (sn s) (s + 10 * sn s) (tt s) (at_ s) false false) (tsk 0 2 s (sn s) (s + 10 * sn s) t' a' false false) f f' c 0 → a' ≠ 7 → (∃ Q', Iv k f' sn se (upd tt s t') (upd at_ s a') hd fa a0 a1 a2 Q') →
      @K10_7 l (.p (some (rr, 0))) (.p (some (ra, 0))) (.i .i64 k) (.sl tr 0 k ct) (.sl sr 0 k cs) (.sl er 0 k ce) (.p (some (ur, 0))) (.i .u64 hd) (.i .i64 i) (.i .i64 s) h q g := by
    intro f' c t' a' D h7 ⟨Q', v'⟩
    refine m7s a p (tgf_len sn tt at_) hi hk hs (by omega) hT D (.inl ⟨rfl, h7⟩) (fun h' own' tg' sn' hc A P => ?_)
    rcases hc with ⟨_, _, rfl, rfl⟩ | ⟨h0, _⟩ | ⟨h0, _⟩
    · rw [tgf_upd] at P
      exact Qg h' ⟨f', _, own', _, se, _, _, fa, a0, a1, a2, Q', A, P, v', hb', by omega⟩
    · cases h0
    · exact absurd h0 h7
  have htt : upd tt s (tt s) = tt := upd_same tt s
  rcases (by omega : at_ s = 0 ∨ at_ s = 1 ∨ at_ s = 2 ∨ at_ s = 3 ∨ at_ s = 4 ∨ at_ s = 5 ∨ at_ s = 6) with e | e | e | e | e | e | e
  · rw [e] at soft
    refine soft (do_tail isP2 (by omega) (by omega)) (by omega) ⟨Q, iv_soft v (by omega) (by omega) ?_ (by omega)⟩
    have := v.tail
    rw [show (Int.toNat 0) = 0 from rfl, this]
    have := v.h0
    omega
  · have D := @do_stand ra 9 f 0 0 2 s (sn s) (s + 10 * sn s) (tt s) false isP2 (by omega) (by omega) (by omega)
    by_cases h1 : f (pl 0 2 (tt s)).toNat = tt s
    · rw [h1, show stn (tt s) (tt s) false = (2, false) by simp [stn]] at D
      rw [e] at soft
      exact soft D (by omega) ⟨Q, iv_soft v (by omega) (by omega) (by omega) (fun _ => iv_stand v hs h1)⟩
    · by_cases h2 : f (pl 0 2 (tt s)).toNat < tt s
      · rw [show stn (tt s) (f (pl 0 2 (tt s)).toNat) false = (1, true) by simp [stn, h1, h2]] at D
        rw [e] at hT
        refine m7s a p (tgf_len sn tt at_) hi hk hs (by omega) hT D (.inr (.inl ⟨rfl, by omega⟩)) (fun h' own' tg' sn' hc A P => ?_)
        rcases hc with ⟨h0, _⟩ | ⟨_, rfl, rfl⟩ | ⟨h0, _⟩
        · cases h0
        · rw [tgf_upd2] at P
          exact Qg h' ⟨f, _, own', _, se, _, _, fa, a0, a1, a2, Q, A, P, iv_soft v (by omega) (by omega) (by omega) (by omega), hb', by omega⟩
        · omega
      · rw [show stn (tt s) (f (pl 0 2 (tt s)).toNat) false = (0, false) by simp [stn, h1, h2]] at D
        rw [e] at soft
        exact soft D (by omega) ⟨Q, iv_soft v (by omega) (by omega) (by omega) (by omega)⟩
  · have D := @do_claim ra 9 f 0 0 2 s (sn s) (s + 10 * sn s) (tt s) false isP2 (by omega) (by omega) (by omega)
    rw [e] at soft
    by_cases h1 : f (Int.toNat 0) = tt s
    · rw [if_pos h1, if_pos h1] at D
      refine soft D (by omega) ⟨Q ++ [(s, sn s)], ?_⟩
      rw [htt]
      exact iv_claim v hs e h1
    · rw [if_neg h1, if_neg h1] at D
      exact soft D (by omega) ⟨Q, iv_soft v (by omega) (by omega) (by omega) (by omega)⟩
  · rw [e] at soft
    refine soft (do_d0 isP2 (by omega) (by omega) (by omega)) (by omega) ⟨Q, ?_⟩
    rw [htt]
    exact iv_data v hs (i := 0) (by omega) (by omega) ⟨fun _ => rfl, fun h => by omega, fun h => by omega⟩
  · rw [e] at soft
    refine soft (do_d1 isP2 (by omega) (by omega) (by omega)) (by omega) ⟨Q, ?_⟩
    rw [htt]
    exact iv_data v hs (i := 1) (by omega) (by omega) ⟨fun h => by omega, fun _ => rfl, fun h => by omega⟩
  · rw [e] at soft
    refine soft (do_d2 isP2 (by omega) (by omega) (by omega)) (by omega) ⟨Q, ?_⟩
    rw [htt]
    exact iv_data v hs (i := 2) (by omega) (by omega) ⟨fun h => by omega, fun h => by omega, fun _ => rfl⟩
  · rw [e] at hT
    refine m7s a p (tgf_len sn tt at_) hi hk hs (by omega) hT (do_last isP2 (by omega) (by omega) (by omega)) (.inr (.inr ⟨rfl, rfl⟩)) (fun h' own' tg' sn' hc A P => ?_)
    rcases hc with ⟨_, h0, _⟩ | ⟨h0, _⟩ | ⟨_, rfl, rfl⟩
    · exact absurd rfl h0
    · cases h0
    · rw [tgf_upd3] at P
      refine Qg h' ⟨_, _, own', _, se, _, _, fa, a0, a1, a2, Q, A, P, iv_last v hs e, fun s' hs' => ?_, by omega⟩
      have := hb s' hs'
      by_cases hne : s' = s
      · subst hne; rw [upd_at]; omega
      · rw [upd_ne _ _ hne]; omega
theorem k7f (S : Stt ra rr tr sr er ur k l lr i hd h) (hi : i < 400) (hk : k ≤ 3)
    (Qg : ∀ h' hd', Stt ra rr tr sr er ur k l lr (i + 1) hd' h' → g.un l (.p (some (rr, 0))) (.p (some (ra, 0))) (.i .i64 k) (.sl tr 0 k ct) (.sl sr 0 k cs) (.sl er 0 k ce) (.p (some (ur, 0))) (.i .u64 (hd' : Nat)) (.i .i64 (i + 1 : Nat)) h') :
    @K10_7 l (.p (some (rr, 0))) (.p (some (ra, 0))) (.i .i64 k) (.sl tr 0 k ct) (.sl sr 0 k cs) (.sl er 0 k ce) (.p (some (ur, 0))) (.i .u64 hd) (.i .i64 i) (.i .i64 k) h q g := by
  obtain ⟨f, ts, own, sn, se, tt, at_, fa, a0, a1, a2, Q, a, p, v, hb, hh⟩ := S
  obtain ⟨c1, c2, c3, c4, c5, c6⟩ := v.fet
  have hb' : ∀ s, s < k → sn s ≤ i + 1 ∧ se s ≤ i + 1 := fun s hs => by have := hb s hs; omega
  have soft : ∀ {b0 b1 b2 fa' c : Int} {em : Bool}, FDoes ra 9 (fsk 0 2 hd a0 a1 a2 fa false) (fsk 0 2 hd b0 b1 b2 fa' em) f f c 0 → (em = false ∧ fa' ≠ 5 ∨ em = true) → (em = false → Iv k f sn se tt at_ hd fa' b0 b1 b2 Q) →
      @K10_7 l (.p (some (rr, 0))) (.p (some (ra, 0))) (.i .i64 k) (.sl tr 0 k ct) (.sl sr 0 k cs) (.sl er 0 k ce) (.p (some (ur, 0))) (.i .u64 hd) (.i .i64 i) (.i .i64 k) h q g := by
    intro b0 b1 b2 fa' c em D h5 v'
    refine m7f a p hi D h5 (fun h' own' v0 v1 v2 va hc A P => ?_)
    rcases hc with ⟨he, _, rfl, rfl, rfl, rfl⟩ | ⟨_, rfl, rfl, rfl, rfl⟩
    · exact Qg h' hd ⟨f, _, own', _, se, _, _, _, _, _, _, Q, A, P, v' he, hb', by omega⟩
    · exact Qg h' hd ⟨f, _, own', _, se, _, _, _, _, _, _, Q, A, P, iv_fetch v ⟨by omega, by omega, fun h => by omega, fun h => by omega, fun h => by omega, fun h => by omega⟩, hb', by omega⟩
  rcases (by omega : fa = 0 ∨ fa = 1 ∨ fa = 2 ∨ fa = 3 ∨ fa = 4) with rfl | rfl | rfl | rfl | rfl
  · by_cases hf : f (pl 0 2 hd).toNat = hd + 1
    · refine soft (em := false) (fun h own Q a q => f_stand a isP2 (by omega) (by omega) (by omega) (by rw [if_pos hf]; exact q)) (.inl ⟨rfl, by omega⟩) (fun _ => iv_fetch v ⟨by omega, by omega, fun _ => hf, fun h => by omega, fun h => by omega, fun h => by omega⟩)
    · refine soft (em := true) (fun h own Q a q => f_stand a isP2 (by omega) (by omega) (by omega) (by rw [if_neg hf]; exact q)) (.inr rfl) (fun h => by cases h)
  · exact soft (em := false) (fun h own Q a q => f_d0 a isP2 (by omega) (by omega) (by omega) q) (.inl ⟨rfl, by omega⟩) (fun _ => iv_fetch v ⟨by omega, by omega, fun _ => c3 (by omega), fun _ => rfl, fun h => by omega, fun h => by omega⟩)
  · exact soft (em := false) (fun h own Q a q => f_d1 a isP2 (by omega) (by omega) (by omega) q) (.inl ⟨rfl, by omega⟩) (fun _ => iv_fetch v ⟨by omega, by omega, fun _ => c3 (by omega), fun _ => c4 (by omega), fun _ => rfl, fun h => by omega⟩)
  · exact soft (em := false) (fun h own Q a q => f_d2 a isP2 (by omega) (by omega) (by omega) q) (.inl ⟨rfl, by omega⟩) (fun _ => iv_fetch v ⟨by omega, by omega, fun _ => c3 (by omega), fun _ => c4 (by omega), fun _ => c5 (by omega), fun _ => rfl⟩)
  · obtain ⟨s, Q', hs, rfl, rfl, rfl, v'⟩ := iv_leave v
    have hbs := hb s hs
    refine m7g a p hi hk hs (by omega) (by omega) (fun h own Q a q => f_leave a isP2 (by omega) (by omega) (by omega) q) (fun h' own' A P => ?_)
    refine Qg h' (hd + 1) ⟨_, _, own', sn, _, tt, at_, 0, 0, 0, 0, Q', A, P, ?_, fun s' hs' => ?_, by omega⟩
    · have e : ((hd + 1 : Nat) : Int) = hd + 1 := by omega
      rw [e]
      exact v'
    · have := hb s' hs'
      by_cases hne : s' = s
      · subst hne; rw [upd_at]; omega
      · rw [upd_ne _ _ hne]; omega
end
/-! ### the loops -/
def LoopM (ra rr tr sr er ur k : Nat) (l : V) (lr : List (List V)) (ct cs ce : Cap) (m : Nat) (x0 x5 x6 x7 x8 x9 x10 x11 x12 x14 : V) (h : H) : Prop :=
  ∃ i hd : Nat, x0 = l ∧ x5 = .p (some (rr, 0)) ∧ x6 = .p (some (ra, 0)) ∧ x7 = .i .i64 k ∧ x8 = .sl tr 0 k ct ∧ x9 = .sl sr 0 k cs ∧ x10 = .sl er 0 k ce ∧ x11 = .p (some (ur, 0)) ∧ x12 = .i .u64 hd ∧ x14 = .i .i64 i ∧ i ≤ 400 ∧ m = 400 - i ∧ Stt ra rr tr sr er ur k l lr i hd h
def LoopE (k sr er : Nat) (cs ce : Cap) (sn se : Nat → Nat) (m : Nat) (x7 x9 x10 x22 : V) (h : H) : Prop :=
  ∃ j : Nat, x7 = .i .i64 k ∧ x9 = .sl sr 0 k cs ∧ x10 = .sl er 0 k ce ∧ x22 = .i .i64 j ∧ j ≤ k ∧ m = k - j ∧ h.get sr = some ⟨false, Nr k sn⟩ ∧ h.get er = some ⟨false, Nr k se⟩
theorem final {h : H} {k sr er : Nat} {cs ce : Cap} {sn se : Nat → Nat} (hk : k ≤ 3) (hs : h.get sr = some ⟨false, Nr k sn⟩) (he : h.get er = some ⟨false, Nr k se⟩) (hle : ∀ s, s < k → se s ≤ sn s + 1) (hb : ∀ s, s < k → sn s ≤ 400) :
    @W10_4 (.i .i64 k) (.sl sr 0 k cs) (.sl er 0 k ce) (.i .i64 0) h ⟨fun v _ => v = .b true⟩ := by
  refine W10_4_inv (LoopE k sr er cs ce sn se) ?_ k _ _ _ _ _ ⟨0, rfl, rfl, rfl, rfl, by omega, by omega, hs, he⟩
  rintro m _ _ _ _ h3 ⟨j, rfl, rfl, rfl, rfl, hj, rfl, hs3, he3⟩
  by_cases hlt : j < k
  · have g1 := nr_get sn hlt
    have g2 := nr_get se hlt
    have := hle j hlt
    have := hb j hlt
    simp (maxSteps := 2000000) (disch := omega) only [stp, ← decide_not, vEqz, eqz, vEqa, eqList, eqAtom, H.at, H.load, vBox, vNewSl, vBld, fill, Mx.part, vClear, vCopy, vBtos, source, lenV, V.isSl, Mx.room, slcut, cutOp, mkOp, bounds, natIn, H.kill, beq_self_eq_true, if_pos, if_neg, List.cons_append, List.nil_append, List.append_nil, List.length_cons, List.length_nil, List.length_set, List.take_succ_cons, List.take_zero, List.drop_succ_cons, List.drop_zero, List.take_nil, List.drop_nil, List.all_cons, List.all_nil, ite_self, if_true, if_false, ite_true, ite_false, reduceIte, reduceDIte, eq_self, ne_eq, gt_iff_lt, ge_iff_le, Option.map_some, Option.map_none, Nat.reduceAdd, Nat.reduceMul, Nat.reduceSub, Nat.reduceLT, Nat.reduceLeDiff, Nat.reduceEqDiff, Nat.reduceSucc, Int.reduceAdd, Int.reduceSub, Int.reduceMul, Int.reduceNeg, Int.reduceLT, Int.reduceLE, Int.reduceEq, Int.reduceNe, Int.reduceToNat, Int.reduceTMod, Int.reduceTDiv, Int.reduceFDiv, Int.reducePow, Nat.reduceMod, Nat.reduceAnd, Nat.reduceDiv, Nat.reducePow, L10_4, hs3, he3, g1, g2]
    exact ⟨k - (j + 1), by omega, j + 1, rfl, rfl, rfl, rfl, by omega, rfl, hs3, he3⟩
  · have : j = k := by omega
    subst this
    simp (maxSteps := 2000000) (disch := omega) only [stp, ← decide_not, vEqz, eqz, vEqa, eqList, eqAtom, H.at, H.load, vBox, vNewSl, vBld, fill, Mx.part, vClear, vCopy, vBtos, source, lenV, V.isSl, Mx.room, slcut, cutOp, mkOp, bounds, natIn, H.kill, beq_self_eq_true, if_pos, if_neg, List.cons_append, List.nil_append, List.append_nil, List.length_cons, List.length_nil, List.length_set, List.take_succ_cons, List.take_zero, List.drop_succ_cons, List.drop_zero, List.take_nil, List.drop_nil, List.all_cons, List.all_nil, ite_self, if_true, if_false, ite_true, ite_false, reduceIte, reduceDIte, eq_self, ne_eq, gt_iff_lt, ge_iff_le, Option.map_some, Option.map_none, Nat.reduceAdd, Nat.reduceMul, Nat.reduceSub, Nat.reduceLT, Nat.reduceLeDiff, Nat.reduceEqDiff, Nat.reduceSucc, Int.reduceAdd, Int.reduceSub, Int.reduceMul, Int.reduceNeg, Int.reduceLT, Int.reduceLE, Int.reduceEq, Int.reduceNe, Int.reduceToNat, Int.reduceTMod, Int.reduceTDiv, Int.reduceFDiv, Int.reducePow, Nat.reduceMod, Nat.reduceAnd, Nat.reduceDiv, Nat.reducePow, L10_4, K10_3]
    refine awake _ _ (fun h9 k9 n9 => ?_)
    simp (maxSteps := 2000000) (disch := omega) only [stp, ← decide_not, vEqz, eqz, vEqa, eqList, eqAtom, H.at, H.load, vBox, vNewSl, vBld, fill, Mx.part, vClear, vCopy, vBtos, source, lenV, V.isSl, Mx.room, slcut, cutOp, mkOp, bounds, natIn, H.kill, beq_self_eq_true, if_pos, if_neg, List.cons_append, List.nil_append, List.append_nil, List.length_cons, List.length_nil, List.length_set, List.take_succ_cons, List.take_zero, List.drop_succ_cons, List.drop_zero, List.take_nil, List.drop_nil, List.all_cons, List.all_nil, ite_self, if_true, if_false, ite_true, ite_false, reduceIte, reduceDIte, eq_self, ne_eq, gt_iff_lt, ge_iff_le, Option.map_some, Option.map_none, Nat.reduceAdd, Nat.reduceMul, Nat.reduceSub, Nat.reduceLT, Nat.reduceLeDiff, Nat.reduceEqDiff, Nat.reduceSucc, Int.reduceAdd, Int.reduceSub, Int.reduceMul, Int.reduceNeg, Int.reduceLT, Int.reduceLE, Int.reduceEq, Int.reduceNe, Int.reduceToNat, Int.reduceTMod, Int.reduceTDiv, Int.reduceFDiv, Int.reducePow, Nat.reduceMod, Nat.reduceAnd, Nat.reduceDiv, Nat.reducePow, ]
theorem rem_of {k : Nat} {x : Int} (hx : 0 ≤ x) : ∃ w : Nat, x.tmod (k + 1) = w ∧ w ≤ k := by
  have h1 := Int.emod_nonneg x (show (k : Int) + 1 ≠ 0 by omega)
  have h2 := Int.emod_lt_of_pos x (show (0 : Int) < k + 1 by omega)
  exact ⟨(x % (k + 1)).toNat, by rw [Int.tmod_eq_emod_of_nonneg hx]; omega, by omega⟩
theorem mstep {h : H} {ra rr tr sr er ur k i hd w : Nat} {l : V} {lr : List (List V)} {ct cs ce : Cap} (S3 : Stt ra rr tr sr er ur k l lr i hd h) (hlt : i < 400) (hk : k ≤ 3) (hw : w ≤ k) {q : Hid (V → H → Prop)} :
    @K10_7 l (.p (some (rr, 0))) (.p (some (ra, 0))) (.i .i64 k) (.sl tr 0 k ct) (.sl sr 0 k cs) (.sl er 0 k ce) (.p (some (ur, 0))) (.i .u64 hd) (.i .i64 i) (.i .i64 w) h q ⟨fun y0 y5 y6 y7 y8 y9 y10 y11 y12 y14 h => ∃ m, m < 400 - i ∧ LoopM ra rr tr sr er ur k l lr ct cs ce m y0 y5 y6 y7 y8 y9 y10 y11 y12 y14 h⟩ := by
  rcases Nat.lt_or_ge w k with h1 | h1
  · exact k7s S3 hlt hk h1 (fun h' S' => ⟨400 - (i + 1), by omega, i + 1, hd, rfl, rfl, rfl, rfl, rfl, rfl, rfl, rfl, rfl, rfl, by omega, rfl, S'⟩)
  · have : w = k := by omega
    subst this
    exact k7f S3 hlt hk (fun h' hd' S' => ⟨400 - (i + 1), by omega, i + 1, hd', rfl, rfl, rfl, rfl, rfl, rfl, rfl, rfl, rfl, rfl, by omega, rfl, S'⟩)
theorem mloop {h : H} {ra rr tr sr er ur k : Nat} {l : V} {lr : List (List V)} {ct cs ce : Cap} (hr : ∀ r ∈ lr, ∃ n : Int, r = [.i .i64 n]) (hk : k = 2 ∨ k = 3) (S : Stt ra rr tr sr er ur k l lr 0 0 h) :
    @W10_5 l (.p (some (rr, 0))) (.p (some (ra, 0))) (.i .i64 k) (.sl tr 0 k ct) (.sl sr 0 k cs) (.sl er 0 k ce) (.p (some (ur, 0))) (.i .u64 0) (.i .i64 0) h ⟨fun v _ => v = .b true⟩ := by
  refine W10_5_inv (LoopM ra rr tr sr er ur k l lr ct cs ce) ?_ 400 _ _ _ _ _ _ _ _ _ _ _ ⟨0, 0, rfl, rfl, rfl, rfl, rfl, rfl, rfl, rfl, rfl, rfl, by omega, rfl, S⟩
  rintro m _ _ _ _ _ _ _ _ _ _ h3 ⟨i, hd, rfl, rfl, rfl, rfl, rfl, rfl, rfl, rfl, rfl, rfl, hi, rfl, S3⟩
  by_cases hlt : i < 400
  · have S4 := S3
    obtain ⟨f, ts, own, sn, se, tt, at_, fa, a0, a1, a2, Q, a, p, v, hb, hh⟩ := S3
    have hll := p.l.len
    by_cases hil : i < lr.length
    · rcases p.l with ⟨rfl, _⟩ | ⟨rl, c, hrl, rfl, kl⟩
      · simp at hil
      have kl0 := kl.2.2
      obtain ⟨n, hn⟩ := hr _ (List.getElem_mem hil)
      have hw1 : ∀ r ∈ lr, r.length = 1 := by
        intro r hm
        obtain ⟨_, rfl⟩ := hr r hm
        rfl
      have hget := flat_get hw1 i 0 [] hil (by omega)
      rw [List.append_nil, hn] at hget
      simp only [Nat.mul_one, Nat.add_zero, List.getElem?_cons_zero] at hget
      obtain ⟨z, hze⟩ : ∃ z, z = land .i64 n 255 := ⟨_, rfl⟩
      have hz := land_in n 255 (by omega) (by omega)
      rw [← hze] at hz
      obtain ⟨w, hw, hwk⟩ := rem_of (k := k) hz.1
      obtain ⟨w2, hw2, _⟩ := rem_of (k := k) (x := i) (by omega)
      simp (maxSteps := 2000000) (disch := omega) only [stp, ← decide_not, vEqz, eqz, vEqa, eqList, eqAtom, H.at, H.load, vBox, vNewSl, vBld, fill, Mx.part, vClear, vCopy, vBtos, source, lenV, V.isSl, Mx.room, slcut, cutOp, mkOp, bounds, natIn, H.kill, beq_self_eq_true, if_pos, if_neg, List.cons_append, List.nil_append, List.append_nil, List.length_cons, List.length_nil, List.length_set, List.take_succ_cons, List.take_zero, List.drop_succ_cons, List.drop_zero, List.take_nil, List.drop_nil, List.all_cons, List.all_nil, ite_self, if_true, if_false, ite_true, ite_false, reduceIte, reduceDIte, eq_self, ne_eq, gt_iff_lt, ge_iff_le, Option.map_some, Option.map_none, Nat.reduceAdd, Nat.reduceMul, Nat.reduceSub, Nat.reduceLT, Nat.reduceLeDiff, Nat.reduceEqDiff, Nat.reduceSucc, Int.reduceAdd, Int.reduceSub, Int.reduceMul, Int.reduceNeg, Int.reduceLT, Int.reduceLE, Int.reduceEq, Int.reduceNe, Int.reduceToNat, Int.reduceTMod, Int.reduceTDiv, Int.reduceFDiv, Int.reducePow, Nat.reduceMod, Nat.reduceAnd, Nat.reduceDiv, Nat.reducePow, L10_5, hll, kl0, hget, ← hze, hw, hw2]
      exact mstep S4 hlt (by omega) hwk
    · obtain ⟨w, hw, hwk⟩ := rem_of (k := k) (x := i) (by omega)
      simp (maxSteps := 2000000) (disch := omega) only [stp, ← decide_not, vEqz, eqz, vEqa, eqList, eqAtom, H.at, H.load, vBox, vNewSl, vBld, fill, Mx.part, vClear, vCopy, vBtos, source, lenV, V.isSl, Mx.room, slcut, cutOp, mkOp, bounds, natIn, H.kill, beq_self_eq_true, if_pos, if_neg, List.cons_append, List.nil_append, List.append_nil, List.length_cons, List.length_nil, List.length_set, List.take_succ_cons, List.take_zero, List.drop_succ_cons, List.drop_zero, List.take_nil, List.drop_nil, List.all_cons, List.all_nil, ite_self, if_true, if_false, ite_true, ite_false, reduceIte, reduceDIte, eq_self, ne_eq, gt_iff_lt, ge_iff_le, Option.map_some, Option.map_none, Nat.reduceAdd, Nat.reduceMul, Nat.reduceSub, Nat.reduceLT, Nat.reduceLeDiff, Nat.reduceEqDiff, Nat.reduceSucc, Int.reduceAdd, Int.reduceSub, Int.reduceMul, Int.reduceNeg, Int.reduceLT, Int.reduceLE, Int.reduceEq, Int.reduceNe, Int.reduceToNat, Int.reduceTMod, Int.reduceTDiv, Int.reduceFDiv, Int.reducePow, Nat.reduceMod, Nat.reduceAnd, Nat.reduceDiv, Nat.reducePow, L10_5, hll, hw]
      exact mstep S4 hlt (by omega) hwk
  · have : i = 400 := by omega
    subst this
    obtain ⟨f, ts, own, sn, se, tt, at_, fa, a0, a1, a2, Q, a, p, v, hb, hh⟩ := S3
    simp (maxSteps := 2000000) (disch := omega) only [stp, ← decide_not, vEqz, eqz, vEqa, eqList, eqAtom, H.at, H.load, vBox, vNewSl, vBld, fill, Mx.part, vClear, vCopy, vBtos, source, lenV, V.isSl, Mx.room, slcut, cutOp, mkOp, bounds, natIn, H.kill, beq_self_eq_true, if_pos, if_neg, List.cons_append, List.nil_append, List.append_nil, List.length_cons, List.length_nil, List.length_set, List.take_succ_cons, List.take_zero, List.drop_succ_cons, List.drop_zero, List.take_nil, List.drop_nil, List.all_cons, List.all_nil, ite_self, if_true, if_false, ite_true, ite_false, reduceIte, reduceDIte, eq_self, ne_eq, gt_iff_lt, ge_iff_le, Option.map_some, Option.map_none, Nat.reduceAdd, Nat.reduceMul, Nat.reduceSub, Nat.reduceLT, Nat.reduceLeDiff, Nat.reduceEqDiff, Nat.reduceSucc, Int.reduceAdd, Int.reduceSub, Int.reduceMul, Int.reduceNeg, Int.reduceLT, Int.reduceLE, Int.reduceEq, Int.reduceNe, Int.reduceToNat, Int.reduceTMod, Int.reduceTDiv, Int.reduceFDiv, Int.reducePow, Nat.reduceMod, Nat.reduceAnd, Nat.reduceDiv, Nat.reducePow, L10_5, K10_2]
    refine final (by omega) p.s.2.2 p.e.2.2 (fun s hs => ?_) (fun s hs => (hb s hs).1)
    have := v.ord s hs
    split at this <;> omega
def z9 : List V := [.i .i64 0, .i .i64 0, .i .u64 0, .i .u64 0, .i .u64 0, .i .u64 0, .i .i64 0, .b false, .b false]
def tgi (j : Nat) : Nat → List V := fun s => if s < j then tsk 0 2 s 0 s 0 0 false false else z9
theorem tgi_len (j s : Nat) : (tgi j s).length = 9 := by unfold tgi; split <;> rfl
theorem tgi_upd (j : Nat) : upd (tgi j) j (tsk 0 2 j 0 j 0 0 false false) = tgi (j + 1) := by
  funext s
  unfold upd tgi
  by_cases h : s = j
  · subst h; rw [if_pos rfl, if_pos (by omega)]
  · rw [if_neg h]
    by_cases h2 : s < j
    · rw [if_pos h2, if_pos (by omega)]
    · rw [if_neg h2, if_neg (by omega)]
theorem tr_congr {k : Nat} {tg tg' : Nat → List V} (h : ∀ s, s < k → tg s = tg' s) : Tr2 k tg = Tr2 k tg' := by
  unfold Tr2
  congr 1
  apply List.map_congr_left
  intro s hs
  exact h s (List.mem_range.1 hs)
def LoopN (ra rr tr sr er ur k : Nat) (l : V) (lr : List (List V)) (ct cs ce : Cap) (f : Nat → Int) (ts : List Int) (own : Nat → Prop) (m : Nat) (x0 x5 x6 x7 x8 x9 x10 x11 x12 x13 : V) (h : H) : Prop :=
  ∃ j : Nat, x0 = l ∧ x5 = .p (some (rr, 0)) ∧ x6 = .p (some (ra, 0)) ∧ x7 = .i .i64 k ∧ x8 = .sl tr 0 k ct ∧ x9 = .sl sr 0 k cs ∧ x10 = .sl er 0 k ce ∧ x11 = .p (some (ur, 0)) ∧ x12 = .i .u64 0 ∧ x13 = .i .i64 j ∧ j ≤ k ∧ m = k - j ∧ Ar h ra 9 f ts 0 own ∧ Hp h own rr tr sr er ur k l lr (tgi j) (fun _ => 0) (fun _ => 0) (fsk 0 2 (0 : Nat) 0 0 0 0 false)
theorem iv_init {k : Nat} {f : Nat → Int} (h0 : f 0 = 0) (hf : ∀ x : Int, 0 ≤ x → x < 2 → f (pl 0 2 x).toNat = x) : Iv k f (fun _ => 0) (fun _ => 0) (fun _ => 0) (fun _ => 0) (0 : Nat) 0 0 0 0 [] := by
  refine ⟨by omega, by simp, by rw [h0]; rfl, fun x h1 h2 => ?_, fun j s c hj => by simp at hj, fun s _ => ⟨by omega, by omega, by omega, by simp, fun h => by omega, fun h => by omega⟩, fun s _ => by rw [if_neg (by omega)]; rfl, ⟨by omega, by omega, fun h => by omega, fun h => by omega, fun h => by omega, fun h => by omega⟩⟩
  simp only [List.length_nil, Int.natCast_zero, Int.add_zero, Int.zero_add] at h1 h2
  exact hf x h1 h2
theorem minit {h : H} {own : Nat → Prop} {ra rr tr sr er ur k : Nat} {l : V} {lr : List (List V)} {ct cs ce : Cap} {f : Nat → Int} {ts : List Int} (hr : ∀ r ∈ lr, ∃ n : Int, r = [.i .i64 n]) (hk : k = 2 ∨ k = 3) (a : Ar h ra 9 f ts 0 own) (h0 : f 0 = 0) (hf : ∀ x : Int, 0 ≤ x → x < 2 → f (pl 0 2 x).toNat = x)
    (p : Hp h own rr tr sr er ur k l lr (tgi 0) (fun _ => 0) (fun _ => 0) (fsk 0 2 (0 : Nat) 0 0 0 0 false)) :
    @W10_23 l (.p (some (rr, 0))) (.p (some (ra, 0))) (.i .i64 k) (.sl tr 0 k ct) (.sl sr 0 k cs) (.sl er 0 k ce) (.p (some (ur, 0))) (.i .u64 0) (.i .i64 0) h ⟨fun v _ => v = .b true⟩ := by
  refine W10_23_inv (LoopN ra rr tr sr er ur k l lr ct cs ce f ts own) ?_ k _ _ _ _ _ _ _ _ _ _ _ ⟨0, rfl, rfl, rfl, rfl, rfl, rfl, rfl, rfl, rfl, rfl, by omega, by omega, a, p⟩
  rintro m _ _ _ _ _ _ _ _ _ _ h3 ⟨j, rfl, rfl, rfl, rfl, rfl, rfl, rfl, rfl, rfl, rfl, hj, rfl, a3, p3⟩
  by_cases hlt : j < k
  · have r0 := p3.r.2.2
    simp (maxSteps := 2000000) (disch := omega) only [stp, ← decide_not, vEqz, eqz, vEqa, eqList, eqAtom, H.at, H.load, vBox, vNewSl, vBld, fill, Mx.part, vClear, vCopy, vBtos, source, lenV, V.isSl, Mx.room, slcut, cutOp, mkOp, bounds, natIn, H.kill, beq_self_eq_true, if_pos, if_neg, List.cons_append, List.nil_append, List.append_nil, List.length_cons, List.length_nil, List.length_set, List.take_succ_cons, List.take_zero, List.drop_succ_cons, List.drop_zero, List.take_nil, List.drop_nil, List.all_cons, List.all_nil, ite_self, if_true, if_false, ite_true, ite_false, reduceIte, reduceDIte, eq_self, ne_eq, gt_iff_lt, ge_iff_le, Option.map_some, Option.map_none, Nat.reduceAdd, Nat.reduceMul, Nat.reduceSub, Nat.reduceLT, Nat.reduceLeDiff, Nat.reduceEqDiff, Nat.reduceSucc, Int.reduceAdd, Int.reduceSub, Int.reduceMul, Int.reduceNeg, Int.reduceLT, Int.reduceLE, Int.reduceEq, Int.reduceNe, Int.reduceToNat, Int.reduceTMod, Int.reduceTDiv, Int.reduceFDiv, Int.reducePow, Nat.reduceMod, Nat.reduceAnd, Nat.reduceDiv, Nat.reducePow, L10_23, r0]
    refine snew (fun h4 e4 => ?_)
    have p4 := p3.fr (e4.fr own)
    have a4 := a3.ext e4
    have t4 := p4.t.2.2
    have hl := tr_len (k := k) (tgi_len j)
    have hy := tr_lay (k := k) (tgi_len j) hlt (r := tsk 0 2 j 0 j 0 0 false false) rfl
    rw [tgi_upd] at hy
    have p5 := p4.putT (tgi (j + 1))
    unfold tsk at hy ⊢
    simp (maxSteps := 2000000) (disch := omega) only [stp, ← decide_not, vEqz, eqz, vEqa, eqList, eqAtom, H.at, H.load, vBox, vNewSl, vBld, fill, Mx.part, vClear, vCopy, vBtos, source, lenV, V.isSl, Mx.room, slcut, cutOp, mkOp, bounds, natIn, H.kill, beq_self_eq_true, if_pos, if_neg, List.cons_append, List.nil_append, List.append_nil, List.length_cons, List.length_nil, List.length_set, List.take_succ_cons, List.take_zero, List.drop_succ_cons, List.drop_zero, List.take_nil, List.drop_nil, List.all_cons, List.all_nil, ite_self, if_true, if_false, ite_true, ite_false, reduceIte, reduceDIte, eq_self, ne_eq, gt_iff_lt, ge_iff_le, Option.map_some, Option.map_none, Nat.reduceAdd, Nat.reduceMul, Nat.reduceSub, Nat.reduceLT, Nat.reduceLeDiff, Nat.reduceEqDiff, Nat.reduceSucc, Int.reduceAdd, Int.reduceSub, Int.reduceMul, Int.reduceNeg, Int.reduceLT, Int.reduceLE, Int.reduceEq, Int.reduceNe, Int.reduceToNat, Int.reduceTMod, Int.reduceTDiv, Int.reduceFDiv, Int.reducePow, Nat.reduceMod, Nat.reduceAnd, Nat.reduceDiv, Nat.reducePow, t4, hl, hy]
    exact ⟨k - (j + 1), by omega, j + 1, rfl, rfl, rfl, rfl, rfl, rfl, rfl, rfl, rfl, rfl, by omega, rfl, a4.put p4.t.2.1 _, p5⟩
  · have : j = k := by omega
    subst this
    simp (maxSteps := 2000000) (disch := omega) only [stp, ← decide_not, vEqz, eqz, vEqa, eqList, eqAtom, H.at, H.load, vBox, vNewSl, vBld, fill, Mx.part, vClear, vCopy, vBtos, source, lenV, V.isSl, Mx.room, slcut, cutOp, mkOp, bounds, natIn, H.kill, beq_self_eq_true, if_pos, if_neg, List.cons_append, List.nil_append, List.append_nil, List.length_cons, List.length_nil, List.length_set, List.take_succ_cons, List.take_zero, List.drop_succ_cons, List.drop_zero, List.take_nil, List.drop_nil, List.all_cons, List.all_nil, ite_self, if_true, if_false, ite_true, ite_false, reduceIte, reduceDIte, eq_self, ne_eq, gt_iff_lt, ge_iff_le, Option.map_some, Option.map_none, Nat.reduceAdd, Nat.reduceMul, Nat.reduceSub, Nat.reduceLT, Nat.reduceLeDiff, Nat.reduceEqDiff, Nat.reduceSucc, Int.reduceAdd, Int.reduceSub, Int.reduceMul, Int.reduceNeg, Int.reduceLT, Int.reduceLE, Int.reduceEq, Int.reduceNe, Int.reduceToNat, Int.reduceTMod, Int.reduceTDiv, Int.reduceFDiv, Int.reducePow, Nat.reduceMod, Nat.reduceAnd, Nat.reduceDiv, Nat.reducePow, L10_23, K10_1]
    refine mloop hr hk ⟨f, ts, own, fun _ => 0, fun _ => 0, fun _ => 0, fun _ => 0, 0, 0, 0, 0, [], a3, ⟨p3.r, ?_, p3.s, p3.e, p3.u, p3.l, p3.o⟩, iv_init h0 hf, fun s hs => ⟨Nat.le_refl _, Nat.le_refl _⟩, by omega⟩
    have := p3.t
    rwa [tr_congr (tg := tgi j) (tg' := tgf (fun _ => 0) (fun _ => 0) (fun _ => 0)) (fun s hs => by
      unfold tgi tgf
      rw [if_pos hs]
      simp)] at this
theorem mstart {h2 h5 : H} {own2 : Nat → Prop} {ra rr k : Nat} {l : V} {lr : List (List V)} {ct cs ce : Cap} {f : Nat → Int} {ts : List Int} {o : O} (hr : ∀ r ∈ lr, ∃ n : Int, r = [.i .i64 n]) (hk : k = 2 ∨ k = 3) (a : Ar h2 ra 9 f ts 0 own2) (h0 : f 0 = 0) (hf : ∀ x : Int, 0 ≤ x → x < 2 → f (pl 0 2 x).toNat = x)
    (T2 : Has h2 own2 rr ⟨false, [.i .i64 0, .i .i64 2]⟩) (L2 : Lst h2 own2 rr l lr) (z1 : zrep z9 k = Tr2 k (tgi 0)) (z2 : zrep [.i .i64 0] k = Nr k (fun _ => 0))
    (e5 : Ext (((h2.new ⟨false, zrep z9 k⟩).new ⟨false, zrep [.i .i64 0] k⟩).new ⟨false, zrep [.i .i64 0] k⟩) h5) :
    @W10_23 l (.p (some (rr, 0))) (.p (some (ra, 0))) (.i .i64 k) (.sl h2.nx 0 k ct) (.sl (h2.nx + 1) 0 k cs) (.sl (h2.nx + 1 + 1) 0 k ce) (.p (some (h5.nx, 0))) (.i .u64 0) (.i .i64 0) ((h5.new o).put h5.nx (some ⟨false, fsk 0 2 (0 : Nat) 0 0 0 0 false⟩)) ⟨fun v _ => v = .b true⟩ := by
  have lt := a.lt
  have l5 := e5.1
  simp only [H.nx_new] at l5
  have no : ∀ id, h2.nx ≤ id → ¬ own2 id := fun id hid ho => by have := lt _ ho; omega
  have E2 : Ext h2 h5 := (((ext_new _ _).trans (ext_new _ _)).trans (ext_new _ _)).trans e5
  have E6 : Ext h5 (h5.new o) := ext_new _ _
  have lr2 := T2.1
  have hT : Has h5 own2 h2.nx ⟨false, Tr2 k (tgi 0)⟩ := ⟨by omega, no _ (by omega), (e5.2 _ (by simp only [H.nx_new]; omega)).trans (by rw [z1]; simp; intro h; omega)⟩
  have hS : Has h5 own2 (h2.nx + 1) ⟨false, Nr k (fun _ => 0)⟩ := ⟨by omega, no _ (by omega), (e5.2 _ (by simp only [H.nx_new]; omega)).trans (by rw [z2]; simp)⟩
  have hE : Has h5 own2 (h2.nx + 1 + 1) ⟨false, Nr k (fun _ => 0)⟩ := ⟨by omega, no _ (by omega), (e5.2 _ (by simp only [H.nx_new]; omega)).trans (by rw [z2]; simp)⟩
  refine minit hr hk (((a.ext E2).ext E6).put (no _ (by omega)) _) h0 hf ⟨?_, ?_, ?_, ?_, ⟨by simp, no _ (by omega), by simp⟩, ?_, by omega⟩
  · exact ((E6.fr own2).has ((E2.fr own2).has T2)).put (by omega) _
  · exact ((E6.fr own2).has hT).put (by omega) _
  · exact ((E6.fr own2).has hS).put (by omega) _
  · exact ((E6.fr own2).has hE).put (by omega) _
  · exact ((L2.fr (E2.fr own2)).fr (E6.fr own2)).put (by omega) _
theorem core (l : V) (many : Int) (lr : List (List V)) (hr : ∀ r ∈ lr, ∃ n : Int, r = [.i .i64 n]) (h : H) (hl : Lst h (fun _ => False) h.nx l lr) : Fnc IP 10 [l, .i .i64 many] h (fun v _ => v = .b true) := by
  obtain ⟨z, hze⟩ : ∃ z, z = land .i64 many 1 := ⟨_, rfl⟩
  have hz := land_in many 1 (by omega) (by omega)
  rw [← hze] at hz
  rw [wF_in, f10]
  simp (maxSteps := 2000000) (disch := omega) only [stp, ← decide_not, vEqz, eqz, vEqa, eqList, eqAtom, H.at, H.load, vBox, vNewSl, vBld, fill, Mx.part, vClear, vCopy, vBtos, source, lenV, V.isSl, Mx.room, slcut, cutOp, mkOp, bounds, natIn, H.kill, beq_self_eq_true, if_pos, if_neg, List.cons_append, List.nil_append, List.append_nil, List.length_cons, List.length_nil, List.length_set, List.take_succ_cons, List.take_zero, List.drop_succ_cons, List.drop_zero, List.take_nil, List.drop_nil, List.all_cons, List.all_nil, ite_self, if_true, if_false, ite_true, ite_false, reduceIte, reduceDIte, eq_self, ne_eq, gt_iff_lt, ge_iff_le, Option.map_some, Option.map_none, Nat.reduceAdd, Nat.reduceMul, Nat.reduceSub, Nat.reduceLT, Nat.reduceLeDiff, Nat.reduceEqDiff, Nat.reduceSucc, Int.reduceAdd, Int.reduceSub, Int.reduceMul, Int.reduceNeg, Int.reduceLT, Int.reduceLE, Int.reduceEq, Int.reduceNe, Int.reduceToNat, Int.reduceTMod, Int.reduceTDiv, Int.reduceFDiv, Int.reducePow, Nat.reduceMod, Nat.reduceAnd, Nat.reduceDiv, Nat.reducePow, K10_3, K10_2, K10_6, K10_8, K10_9, K10_10, K10_11, K10_12, K10_20, K10_21, K10_22, K10_7, K10_1, K10, cells isP2]
  refine anew 9 (by omega) (fun h1 ra own a1 e1 n1 => ?_)
  simp only [H.nx_new, H.nx_put] at n1 e1
  have a10 := e1 h.nx (by omega)
  have g1 : h1.get h.nx = some ⟨false, [.i .i64 0, .i .i64 2]⟩ := a10.1.trans (by simp (maxSteps := 2000000) (disch := omega) only [stp, ← decide_not, vEqz, eqz, vEqa, eqList, eqAtom, H.at, H.load, vBox, vNewSl, vBld, fill, Mx.part, vClear, vCopy, vBtos, source, lenV, V.isSl, Mx.room, slcut, cutOp, mkOp, bounds, natIn, H.kill, beq_self_eq_true, if_pos, if_neg, List.cons_append, List.nil_append, List.append_nil, List.length_cons, List.length_nil, List.length_set, List.take_succ_cons, List.take_zero, List.drop_succ_cons, List.drop_zero, List.take_nil, List.drop_nil, List.all_cons, List.all_nil, ite_self, if_true, if_false, ite_true, ite_false, reduceIte, reduceDIte, eq_self, ne_eq, gt_iff_lt, ge_iff_le, Option.map_some, Option.map_none, Nat.reduceAdd, Nat.reduceMul, Nat.reduceSub, Nat.reduceLT, Nat.reduceLeDiff, Nat.reduceEqDiff, Nat.reduceSucc, Int.reduceAdd, Int.reduceSub, Int.reduceMul, Int.reduceNeg, Int.reduceLT, Int.reduceLE, Int.reduceEq, Int.reduceNe, Int.reduceToNat, Int.reduceTMod, Int.reduceTDiv, Int.reduceFDiv, Int.reducePow, Nat.reduceMod, Nat.reduceAnd, Nat.reduceDiv, Nat.reducePow, ])
  have T1 : Has h1 own h.nx ⟨false, [.i .i64 0, .i .i64 2]⟩ := ⟨by omega, a10.2, g1⟩
  have L1 : Lst h1 own h.nx l lr := by
    rcases hl with hl | ⟨rl, c, k0, rfl, k1, k2, k3⟩
    · exact .inl hl
    · have := e1 rl (by omega)
      exact .inr ⟨rl, c, k0, rfl, by omega, this.2, this.1.trans (by simp (maxSteps := 2000000) (disch := omega) only [stp, ← decide_not, vEqz, eqz, vEqa, eqList, eqAtom, H.at, H.load, vBox, vNewSl, vBld, fill, Mx.part, vClear, vCopy, vBtos, source, lenV, V.isSl, Mx.room, slcut, cutOp, mkOp, bounds, natIn, H.kill, beq_self_eq_true, if_pos, if_neg, List.cons_append, List.nil_append, List.append_nil, List.length_cons, List.length_nil, List.length_set, List.take_succ_cons, List.take_zero, List.drop_succ_cons, List.drop_zero, List.take_nil, List.drop_nil, List.all_cons, List.all_nil, ite_self, if_true, if_false, ite_true, ite_false, reduceIte, reduceDIte, eq_self, ne_eq, gt_iff_lt, ge_iff_le, Option.map_some, Option.map_none, Nat.reduceAdd, Nat.reduceMul, Nat.reduceSub, Nat.reduceLT, Nat.reduceLeDiff, Nat.reduceEqDiff, Nat.reduceSucc, Int.reduceAdd, Int.reduceSub, Int.reduceMul, Int.reduceNeg, Int.reduceLT, Int.reduceLE, Int.reduceEq, Int.reduceNe, Int.reduceToNat, Int.reduceTMod, Int.reduceTDiv, Int.reduceFDiv, Int.reducePow, Nat.reduceMod, Nat.reduceAnd, Nat.reduceDiv, Nat.reducePow, ]; exact k3)⟩
  simp (maxSteps := 2000000) (disch := omega) only [stp, ← decide_not, vEqz, eqz, vEqa, eqList, eqAtom, H.at, H.load, vBox, vNewSl, vBld, fill, Mx.part, vClear, vCopy, vBtos, source, lenV, V.isSl, Mx.room, slcut, cutOp, mkOp, bounds, natIn, H.kill, beq_self_eq_true, if_pos, if_neg, List.cons_append, List.nil_append, List.append_nil, List.length_cons, List.length_nil, List.length_set, List.take_succ_cons, List.take_zero, List.drop_succ_cons, List.drop_zero, List.take_nil, List.drop_nil, List.all_cons, List.all_nil, ite_self, if_true, if_false, ite_true, ite_false, reduceIte, reduceDIte, eq_self, ne_eq, gt_iff_lt, ge_iff_le, Option.map_some, Option.map_none, Nat.reduceAdd, Nat.reduceMul, Nat.reduceSub, Nat.reduceLT, Nat.reduceLeDiff, Nat.reduceEqDiff, Nat.reduceSucc, Int.reduceAdd, Int.reduceSub, Int.reduceMul, Int.reduceNeg, Int.reduceLT, Int.reduceLE, Int.reduceEq, Int.reduceNe, Int.reduceToNat, Int.reduceTMod, Int.reduceTDiv, Int.reduceFDiv, Int.reducePow, Nat.reduceMod, Nat.reduceAnd, Nat.reduceDiv, Nat.reducePow, K10_3, K10_2, K10_6, K10_8, K10_9, K10_10, K10_11, K10_12, K10_20, K10_21, K10_22, K10_7, K10_1, K10, g1]
  refine rinit (b := 0) (p := 2) a1 isP2 (by omega) (by omega) (fun h2 f2 ts2 own2 a2 fr2 bg => ?_)
  have T2 := fr2.has T1
  have L2 := L1.fr fr2
  have lt2 := T2.1
  have t2 := T2.2.2
  have h0 : f2 0 = 0 := bg.tail
  have hf : ∀ x : Int, 0 ≤ x → x < 2 → f2 (pl 0 2 x).toNat = x := by
    intro x hx1 hx2
    have := bg.seq x hx1 hx2
    rw [show pl 0 2 x = 0 + 1 + 4 * x by rw [pl2]; omega]
    exact this
  have o2 := a2.lt
  rcases (by omega : z = 0 ∨ z = 1) with rfl | rfl
  · simp (maxSteps := 2000000) (disch := omega) only [stp, ← decide_not, vEqz, eqz, vEqa, eqList, eqAtom, H.at, H.load, vBox, vNewSl, vBld, fill, Mx.part, vClear, vCopy, vBtos, source, lenV, V.isSl, Mx.room, slcut, cutOp, mkOp, bounds, natIn, H.kill, beq_self_eq_true, if_pos, if_neg, List.cons_append, List.nil_append, List.append_nil, List.length_cons, List.length_nil, List.length_set, List.take_succ_cons, List.take_zero, List.drop_succ_cons, List.drop_zero, List.take_nil, List.drop_nil, List.all_cons, List.all_nil, ite_self, if_true, if_false, ite_true, ite_false, reduceIte, reduceDIte, eq_self, ne_eq, gt_iff_lt, ge_iff_le, Option.map_some, Option.map_none, Nat.reduceAdd, Nat.reduceMul, Nat.reduceSub, Nat.reduceLT, Nat.reduceLeDiff, Nat.reduceEqDiff, Nat.reduceSucc, Int.reduceAdd, Int.reduceSub, Int.reduceMul, Int.reduceNeg, Int.reduceLT, Int.reduceLE, Int.reduceEq, Int.reduceNe, Int.reduceToNat, Int.reduceTMod, Int.reduceTDiv, Int.reduceFDiv, Int.reducePow, Nat.reduceMod, Nat.reduceAnd, Nat.reduceDiv, Nat.reducePow, K10_3, K10_2, K10_6, K10_8, K10_9, K10_10, K10_11, K10_12, K10_20, K10_21, K10_22, K10_7, K10_1, K10, ← hze, t2]
    refine fnew (fun h5 e5 => ?_)
    unfold fsk
    simp (maxSteps := 2000000) (disch := omega) only [stp, ← decide_not, vEqz, eqz, vEqa, eqList, eqAtom, H.at, H.load, vBox, vNewSl, vBld, fill, Mx.part, vClear, vCopy, vBtos, source, lenV, V.isSl, Mx.room, slcut, cutOp, mkOp, bounds, natIn, H.kill, beq_self_eq_true, if_pos, if_neg, List.cons_append, List.nil_append, List.append_nil, List.length_cons, List.length_nil, List.length_set, List.take_succ_cons, List.take_zero, List.drop_succ_cons, List.drop_zero, List.take_nil, List.drop_nil, List.all_cons, List.all_nil, ite_self, if_true, if_false, ite_true, ite_false, reduceIte, reduceDIte, eq_self, ne_eq, gt_iff_lt, ge_iff_le, Option.map_some, Option.map_none, Nat.reduceAdd, Nat.reduceMul, Nat.reduceSub, Nat.reduceLT, Nat.reduceLeDiff, Nat.reduceEqDiff, Nat.reduceSucc, Int.reduceAdd, Int.reduceSub, Int.reduceMul, Int.reduceNeg, Int.reduceLT, Int.reduceLE, Int.reduceEq, Int.reduceNe, Int.reduceToNat, Int.reduceTMod, Int.reduceTDiv, Int.reduceFDiv, Int.reducePow, Nat.reduceMod, Nat.reduceAnd, Nat.reduceDiv, Nat.reducePow, K10_3, K10_2, K10_6, K10_8, K10_9, K10_10, K10_11, K10_12, K10_20, K10_21, K10_22, K10_7, K10_1, K10]
    exact mstart (k := 2) hr (.inl rfl) a2 h0 hf T2 L2 rfl rfl e5
  · simp (maxSteps := 2000000) (disch := omega) only [stp, ← decide_not, vEqz, eqz, vEqa, eqList, eqAtom, H.at, H.load, vBox, vNewSl, vBld, fill, Mx.part, vClear, vCopy, vBtos, source, lenV, V.isSl, Mx.room, slcut, cutOp, mkOp, bounds, natIn, H.kill, beq_self_eq_true, if_pos, if_neg, List.cons_append, List.nil_append, List.append_nil, List.length_cons, List.length_nil, List.length_set, List.take_succ_cons, List.take_zero, List.drop_succ_cons, List.drop_zero, List.take_nil, List.drop_nil, List.all_cons, List.all_nil, ite_self, if_true, if_false, ite_true, ite_false, reduceIte, reduceDIte, eq_self, ne_eq, gt_iff_lt, ge_iff_le, Option.map_some, Option.map_none, Nat.reduceAdd, Nat.reduceMul, Nat.reduceSub, Nat.reduceLT, Nat.reduceLeDiff, Nat.reduceEqDiff, Nat.reduceSucc, Int.reduceAdd, Int.reduceSub, Int.reduceMul, Int.reduceNeg, Int.reduceLT, Int.reduceLE, Int.reduceEq, Int.reduceNe, Int.reduceToNat, Int.reduceTMod, Int.reduceTDiv, Int.reduceFDiv, Int.reducePow, Nat.reduceMod, Nat.reduceAnd, Nat.reduceDiv, Nat.reducePow, K10_3, K10_2, K10_6, K10_8, K10_9, K10_10, K10_11, K10_12, K10_20, K10_21, K10_22, K10_7, K10_1, K10, ← hze, t2]
    refine fnew (fun h5 e5 => ?_)
    unfold fsk
    simp (maxSteps := 2000000) (disch := omega) only [stp, ← decide_not, vEqz, eqz, vEqa, eqList, eqAtom, H.at, H.load, vBox, vNewSl, vBld, fill, Mx.part, vClear, vCopy, vBtos, source, lenV, V.isSl, Mx.room, slcut, cutOp, mkOp, bounds, natIn, H.kill, beq_self_eq_true, if_pos, if_neg, List.cons_append, List.nil_append, List.append_nil, List.length_cons, List.length_nil, List.length_set, List.take_succ_cons, List.take_zero, List.drop_succ_cons, List.drop_zero, List.take_nil, List.drop_nil, List.all_cons, List.all_nil, ite_self, if_true, if_false, ite_true, ite_false, reduceIte, reduceDIte, eq_self, ne_eq, gt_iff_lt, ge_iff_le, Option.map_some, Option.map_none, Nat.reduceAdd, Nat.reduceMul, Nat.reduceSub, Nat.reduceLT, Nat.reduceLeDiff, Nat.reduceEqDiff, Nat.reduceSucc, Int.reduceAdd, Int.reduceSub, Int.reduceMul, Int.reduceNeg, Int.reduceLT, Int.reduceLE, Int.reduceEq, Int.reduceNe, Int.reduceToNat, Int.reduceTMod, Int.reduceTDiv, Int.reduceFDiv, Int.reducePow, Nat.reduceMod, Nat.reduceAnd, Nat.reduceDiv, Nat.reducePow, K10_3, K10_2, K10_6, K10_8, K10_9, K10_10, K10_11, K10_12, K10_20, K10_21, K10_22, K10_7, K10_1, K10]
    exact mstart (k := 3) hr (.inr rfl) a2 h0 hf T2 L2 rfl rfl e5
theorem ofSl {ks : List KK} {h h' : H} {v : V} (s : SlOK ks h v h') {p : List V → Prop} (hp : ∀ r, OkL ks r → p r) : ∃ rows, (∀ r ∈ rows, p r) ∧ Lst h' (fun _ => False) h'.nx v rows := by
  rcases s with ⟨rfl, rfl⟩ | ⟨rfl, rfl⟩ | ⟨len, cap, rows, h0, hc, hm, rfl, hk, rfl, rfl⟩
  · exact ⟨[], fun r hr => (by cases hr), .inl ⟨rfl, .inl rfl⟩⟩
  · exact ⟨[], fun r hr => (by cases hr), .inl ⟨rfl, .inr rfl⟩⟩
  · exact ⟨rows, fun r hr => hp r (hk r hr), .inr ⟨h.nx, _, by simp, rfl, by simp, fun h => h, by simp⟩⟩
theorem num_of {r : List V} (h : OkL [.i .i64] r) : ∃ n : Int, r = [.i .i64 n] := by
  obtain ⟨x, r1, rfl, hx, rfl⟩ := h
  obtain ⟨a, rfl, _⟩ := hx
  exact ⟨a, rfl⟩
theorem main (l : V) (many : Int) (wmany : (Lit.int .i64 many).wf = true) (h0 : H) (s0 : SlOK [.i .i64] ⟨0, .l⟩ l h0) : Fnc IrFetchMany.IP 10 [l, .i .i64 many] h0 (fun v _ => v = .b true) := by
  obtain ⟨lr, hr, L⟩ := ofSl s0 (fun _ h => num_of h)
  exact core l many lr hr h0 L
theorem law : ∀ vs h, ArgsOK shape ⟨0, .l⟩ vs h → ∃ k h', ev IrFetchMany.IP k 10 vs h = some (.b true, h') := by
  rintro vs h ⟨l, _, h0, s0, rfl, _, _, ⟨_, _, rfl, ⟨many, rfl, wmany⟩, rfl⟩, rfl, rfl, rfl⟩
  exact law_of_fnc (main l many wmany h s0)
end Go.Proofs.Ytonhcimkodgijaa.PureFetchMany
