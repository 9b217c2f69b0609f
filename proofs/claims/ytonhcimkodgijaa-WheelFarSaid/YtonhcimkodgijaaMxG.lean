/-
  What leaves the heap alone comes to the same: every such operation.
-/
import Derived.Test.YtonhcimkodgijaaMxF
namespace Mx
open Go

section
variable {P : Program} {e : En} {w : World} {gs : Nat}

theorem run_callB {a : Act} {o : Oper} {b : Builtin} {args : Array Operand} {tys : Array TypeId} (ho : o.op = .call { callee := .builtin b, args := args, argTypes := tys }) :
    ∃ cs, (execOp a.eval o).run P w = (builtin b tys o.type cs (args.map a.eval)).run P w := by
  refine ⟨args.map fun | .const _ => true | _ => false, ?_⟩
  simp only [execOp, ho, resolve, invoke, Sem.run_bind, Sem.run_pure, Result.andThen_ok]
  rfl

theorem placesOf_get : ∀ {fs : List Field} {pl : List (Nat × Nat)}, placesOf P fs = some pl → (fs.mapM (fun f => (do pure (f.offset, ← Go.sizeOf f.type) : Sem (Nat × Nat)))).run P w = .ok pl w
  | [], pl, h => by simp only [placesOf] at h; cases h; rfl
  | f :: fs, pl, h => by
    simp only [placesOf] at h
    split at h
    · rename_i n r h1 h2
      cases h
      have ih := placesOf_get h2
      simp only [List.mapM_cons, Sem.run_bind, run_szOf h1, Result.andThen_ok, Sem.run_pure, ih]
    · cases h

theorem oo_rel (hg : Glob e gs) {ts : T} {a : Act} (hr : RL e ts a.tmps.toList) {x : Option Operand} {y : Option Opd} (h : (x = none ∧ y = none) ∨ ∃ z b, x = some z ∧ y = some b ∧ trO gs z = some b) :
    (∀ v, y.map (opd ts) = some v → ∃ u, x.map a.eval = some u ∧ R e v u) ∧ (y.map (opd ts) = none → x.map a.eval = none) := by
  rcases h with ⟨rfl, rfl⟩ | ⟨z, b, rfl, rfl, h⟩
  · exact ⟨fun v h => by simp at h, fun _ => rfl⟩
  · exact ⟨fun v h' => by simp at h'; subst h'; exact ⟨_, rfl, trO_R hg hr h⟩, fun h => by simp at h⟩

theorem part_sim {l : List V} {vs : List Value} {d : TypeDesc} {n off : Nat} {t : TypeId} {v : V} (hd : P.underlying t = some d) (hn : szOf P t = some n) (r : RL e l vs) (h : part (isAggD d) l off n = some v) :
    ∃ v', (Go.part t vs.toArray off).run P w = .ok v' w ∧ R e v v' := by
  unfold part at h
  cases hA : isAggD d with
  | true =>
    simp only [hA, if_true] at h
    split at h
    · rename_i hb
      cases h
      refine ⟨.agg ((vs.drop off).take n).toArray, ?_, ?_⟩
      · simp only [Go.part, Sem.run_bind, run_isAgg hd, hA, Result.andThen_ok, if_true, run_szOf hn, Sem.run_pure]
        congr 2
        simp [Nat.add_sub_cancel_left]
      · simp only [R]; exact ⟨_, rfl, by simpa using (r.drop off).take n⟩
    · cases h
  | false =>
    simp only [hA, Bool.false_eq_true, if_false] at h
    obtain ⟨v', h1, h2⟩ := r.at h
    exact ⟨v', by simp [Go.part, run_isAgg hd, hA, h1], h2⟩

theorem call_pure_sound (hg : Glob e gs) {ts : T} {a : Act} (hr : RL e ts a.tmps.toList) {o : Oper} {c : Go.Call} (hop : o.op = .call c) {po : PO} {v : V} (ht : trPC P gs c = some po) (hx : pure1 ts po = some v) :
    ∃ v', (execOp a.eval o).run P w = .ok (.value v') w ∧ R e v v' := by
  have rd : ∀ {x : Operand} {y : Opd}, trO gs x = some y → R e (opd ts y) (a.eval x) := fun h => trO_R hg hr h
  obtain ⟨cal, cargs, ctys⟩ := c
  unfold trPC at ht
  cases cal with
  | value f => cases ht
  | invoke r m => cases ht
  | builtin b =>
    obtain ⟨cs, hrun⟩ := run_callB (P := P) (w := w) (a := a) hop
    simp only at ht
    rw [hrun]
    split at ht
    · split at ht
      · rename_i x t hargs htys
        have ea : cargs = #[x] := by rw [← hargs]
        have et : ctys = #[t] := by rw [← htys]
        subst ea; subst et
        split at ht
        · rename_i el hd
          obtain ⟨b, h1, h2⟩ := o1_inv ht
          cases h2
          have r1 := rd h1
          simp only [pure1] at hx
          split at hx
          · rename_i n _ hv
            cases hx
            rw [hv] at r1; simp only [R] at r1
            obtain ⟨pl, _, _, r1⟩ := r1
            exact ⟨.int .i64 n, by simp [builtin, Builtin.len_, run_underlying hd, r1, goInt], by simp only [R]⟩
          · rename_i hv
            cases hx
            rw [hv] at r1; simp only [R] at r1
            exact ⟨.int .i64 0, by simp [builtin, Builtin.len_, run_underlying hd, r1, goInt], by simp only [R]⟩
          · rename_i hv
            cases hx
            rw [hv] at r1; simp only [R] at r1
            obtain ⟨_, _, r1, _⟩ := r1
            exact ⟨.int .i64 0, by simp [builtin, Builtin.len_, run_underlying hd, r1, goInt], by simp only [R]⟩
          · rename_i hv
            cases hx
            rw [hv] at r1
            obtain ⟨_, _, r1, _⟩ := R_so r1
            exact ⟨.int .i64 0, by simp [builtin, Builtin.len_, run_underlying hd, r1, goInt], by simp only [R]⟩
          · cases hx
        · rename_i hd
          obtain ⟨b, h1, h2⟩ := o1_inv ht
          cases h2
          have r1 := rd h1
          simp only [pure1] at hx
          split at hx
          · rename_i s hv
            cases hx
            rw [hv] at r1; simp only [R] at r1
            exact ⟨.int .i64 s.size, by simp [builtin, Builtin.len_, run_underlying hd, r1, goInt], by simp only [R]⟩
          · cases hx
        · cases ht
      · cases ht
    · split at ht
      · rename_i x t hargs htys
        have ea : cargs = #[x] := by rw [← hargs]
        have et : ctys = #[t] := by rw [← htys]
        subst ea; subst et
        split at ht
        · rename_i el hd
          obtain ⟨b, h1, h2⟩ := o1_inv ht
          cases h2
          have r1 := rd h1
          simp only [pure1] at hx
          split at hx
          · rename_i n hv
            cases hx
            have hs : ∃ b' l, a.eval x = .slice b' l n := by
              unfold capV at hv
              split at hv
              · rename_i hv'
                cases hv
                rw [hv'] at r1; simp only [R] at r1
                obtain ⟨pl, _, _, r1⟩ := r1
                exact ⟨_, _, r1⟩
              · rename_i hv'
                cases hv
                rw [hv'] at r1; simp only [R] at r1
                exact ⟨_, _, r1⟩
              · rename_i hv'
                cases hv
                rw [hv'] at r1; simp only [R] at r1
                obtain ⟨a', c', r1, hc⟩ := r1
                have := hc (by first | trivial | rfl)
                subst this
                exact ⟨_, _, r1⟩
              · cases hv
            obtain ⟨b', l, r1⟩ := hs
            exact ⟨.int .i64 n, by simp [builtin, Builtin.cap_, run_underlying hd, r1, goInt], by simp only [R]⟩
          · cases hx
        · cases ht
      · cases ht
    · obtain ⟨l, h1, h2⟩ := os_inv ht
      have rl := trOs_R hg hr h1
      split at h2
      · rename_i x xs
        cases h2
        simp only [pure1] at hx
        simp only [List.map_cons] at rl
        obtain ⟨b, r, hbr, rb, rr⟩ := RL_cons_inv rl
        obtain ⟨c, k1, k2⟩ := run_fold (P := P) (w := w) (f := min2) (g := Builtin.min2) run_min2 _ _ _ _ _ hx rb rr
        exact ⟨c, by simp [builtin, Builtin.min_, hbr, k1], k2⟩
      · cases h2
    · obtain ⟨l, h1, h2⟩ := os_inv ht
      have rl := trOs_R hg hr h1
      split at h2
      · rename_i x xs
        cases h2
        simp only [pure1] at hx
        simp only [List.map_cons] at rl
        obtain ⟨b, r, hbr, rb, rr⟩ := RL_cons_inv rl
        obtain ⟨c, k1, k2⟩ := run_fold (P := P) (w := w) (f := max2) (g := Builtin.max2) run_max2 _ _ _ _ _ hx rb rr
        exact ⟨c, by simp [builtin, Builtin.max_, hbr, k1], k2⟩
      · cases h2
    · cases ht

theorem pure_sound (hg : Glob e gs) {ts : T} {a : Act} (hr : RL e ts a.tmps.toList) {o : Oper} {po : PO} {v : V} (ht : trPO P gs o.op = some po) (hx : pure1 ts po = some v) :
    ∃ v', (execOp a.eval o).run P w = .ok (.value v') w ∧ R e v v' := by
  have rd : ∀ {x : Operand} {y : Opd}, trO gs x = some y → R e (opd ts y) (a.eval x) := fun h => trO_R hg hr h
  unfold trPO at ht
  split at ht
  · -- move
    rename_i x hop
    obtain ⟨b, h1, h2⟩ := o1_inv ht
    cases h2
    simp only [pure1] at hx; cases hx
    exact ⟨_, by simp [execOp, hop], rd h1⟩
  · -- assign
    rename_i x hop
    obtain ⟨b, h1, h2⟩ := o1_inv ht
    cases h2
    simp only [pure1] at hx; cases hx
    exact ⟨_, by simp [execOp, hop], rd h1⟩
  · -- pick
    rename_i c x y hop
    obtain ⟨c1, h1, h2⟩ := o1_inv ht
    obtain ⟨x1, h3, h4⟩ := o1_inv h2
    obtain ⟨y1, h5, h6⟩ := o1_inv h4
    cases h6
    simp only [pure1] at hx
    have rc := rd h1
    split at hx
    · rename_i hc
      cases hx
      rw [hc] at rc; simp only [R] at rc
      exact ⟨_, by simp [execOp, hop, rc, asBool], rd h3⟩
    · rename_i hc
      cases hx
      rw [hc] at rc; simp only [R] at rc
      exact ⟨_, by simp [execOp, hop, rc, asBool], rd h5⟩
    · cases hx
  · -- binOp
    rename_i op t x y yt hop
    have plain : ∀ {x1 y1 : Opd}, trO gs x = some x1 → trO gs y = some y1 → bin op (opd ts x1) (opd ts y1) = some v → ∃ v', (execOp a.eval o).run P w = .ok (.value v') w ∧ R e v v' := by
      intro x1 y1 h1 h3 hb
      obtain ⟨v', k1, k2⟩ := sim_bin (P := P) (w := w) hb (rd h1) (rd h3) t
      have hna : noAgg (a.eval x) = true := by
        have r1 := rd h1
        generalize opd ts x1 = A at *
        generalize opd ts y1 = B at *
        cases A <;> first | (simp [bin] at hb; done) | (simp only [R] at r1; rw [r1]; rfl)
      exact ⟨v', by simp [execOp, hop, guard_noAgg hna, k1], k2⟩
    have eqz' : ∀ {k : EK} {x1 y1 : Opd} {r : Bool}, EkOk P t k → trO gs x = some x1 → trO gs y = some y1 → eqz k (opd ts x1) (opd ts y1) = some r →
        (op = .eql → (execOp a.eval o).run P w = .ok (.value (.bool r)) w) ∧ (op = .neq → (execOp a.eval o).run P w = .ok (.value (.bool (!r))) w) := by
      intro k x1 y1 r hk h1 h3 hb
      obtain ⟨k1, k2⟩ := eqz_ops (P := P) (w := w) hk (rd h1) (rd h3) hb
      have hna := eqz_noAgg (rd h1) hb
      exact ⟨fun h => by subst h; simp [execOp, hop, guard_noAgg hna, k1], fun h => by subst h; simp [execOp, hop, guard_noAgg hna, k2]⟩
    have eqz2 : ∀ {k : EK} {neg : Bool} {x1 y1 : Opd}, EkOk P t k → (op = .eql ∧ neg = false ∨ op = .neq ∧ neg = true) → trO gs x = some x1 → trO gs y = some y1 → pure1 ts (.eqz neg k x1 y1) = some v →
        ∃ v', (execOp a.eval o).run P w = .ok (.value v') w ∧ R e v v' := by
      intro k neg x1 y1 hk hop' h1 h3 hx
      simp only [pure1] at hx
      split at hx
      · rename_i r hb
        cases hx
        obtain ⟨k1, k2⟩ := eqz' hk h1 h3 hb
        rcases hop' with ⟨h, rfl⟩ | ⟨h, rfl⟩
        · exact ⟨.bool r, k1 h, by simp [R]⟩
        · exact ⟨.bool (!r), k2 h, by simp [R]⟩
      · cases hx
    have eqa2 : ∀ {ks : List K} {neg : Bool} {x1 y1 : Opd}, P.eqGuardType P.depth t = false → kindsOf P 20 t = some ks → (∀ d, P.underlying t = some d → isAggD d = true) → (op = .eql ∧ neg = false ∨ op = .neq ∧ neg = true) → trO gs x = some x1 → trO gs y = some y1 → pure1 ts (.eqa neg ks x1 y1) = some v →
        ∃ v', (execOp a.eval o).run P w = .ok (.value v') w ∧ R e v v' := by
      intro ks neg x1 y1 hgt hk hag hop' h1 h3 hx
      have r1 := rd h1
      have r3 := rd h3
      simp only [pure1] at hx
      split at hx
      · rename_i l m hl hm
        rw [hl] at r1; rw [hm] at r3
        split at hx
        · rename_i r hb
          cases hx
          obtain ⟨k1, k2⟩ := eqa_ops (P := P) (w := w) hk hag r1 r3 hb
          have e1 := r1; have e3 := r3
          simp only [R] at e1 e3
          obtain ⟨xs, ex, _⟩ := e1
          obtain ⟨ys, ey, _⟩ := e3
          have hgd : (eqGuard op t x y (a.eval x) (a.eval y)).run P w = .ok () w := by rw [ex, ey]; exact run_eqGuard_agg w op t x y xs ys hgt
          rcases hop' with ⟨rfl, rfl⟩ | ⟨rfl, rfl⟩
          · exact ⟨.bool r, by simp [execOp, hop, hgd, k1], by simp [R]⟩
          · exact ⟨.bool (!r), by simp [execOp, hop, hgd, k2], by simp [R]⟩
        · cases hx
      · cases hx
    split at ht
    · obtain ⟨x1, h1, h2⟩ := o1_inv ht
      obtain ⟨y1, h3, h4⟩ := o1_inv h2
      cases h4
      exact plain h1 h3 (by simpa only [pure1] using hx)
    · obtain ⟨x1, h1, h2⟩ := o1_inv ht
      obtain ⟨y1, h3, h4⟩ := o1_inv h2
      cases h4
      exact plain h1 h3 (by simpa only [pure1] using hx)
    · rename_i hd
      split at ht
      · obtain ⟨x1, h1, h2⟩ := o1_inv ht
        obtain ⟨y1, h3, h4⟩ := o1_inv h2
        cases h4
        exact eqz2 (k := .b) hd (.inl ⟨rfl, rfl⟩) h1 h3 hx
      · obtain ⟨x1, h1, h2⟩ := o1_inv ht
        obtain ⟨y1, h3, h4⟩ := o1_inv h2
        cases h4
        exact eqz2 (k := .b) hd (.inr ⟨rfl, rfl⟩) h1 h3 hx
      · cases ht
    · rename_i el hd
      split at ht
      · obtain ⟨x1, h1, h2⟩ := o1_inv ht
        obtain ⟨y1, h3, h4⟩ := o1_inv h2
        cases h4
        exact eqz2 (k := .s) ⟨_, hd⟩ (.inl ⟨rfl, rfl⟩) h1 h3 hx
      · obtain ⟨x1, h1, h2⟩ := o1_inv ht
        obtain ⟨y1, h3, h4⟩ := o1_inv h2
        cases h4
        exact eqz2 (k := .s) ⟨_, hd⟩ (.inr ⟨rfl, rfl⟩) h1 h3 hx
      · cases ht
    · rename_i p q s hd
      split at ht
      · obtain ⟨x1, h1, h2⟩ := o1_inv ht
        obtain ⟨y1, h3, h4⟩ := o1_inv h2
        cases h4
        exact eqz2 (k := .f) ⟨_, _, _, hd⟩ (.inl ⟨rfl, rfl⟩) h1 h3 hx
      · obtain ⟨x1, h1, h2⟩ := o1_inv ht
        obtain ⟨y1, h3, h4⟩ := o1_inv h2
        cases h4
        exact eqz2 (k := .f) ⟨_, _, _, hd⟩ (.inr ⟨rfl, rfl⟩) h1 h3 hx
      · cases ht
    · rename_i el hd
      split at ht
      · rename_i n hn
        split at ht
        · obtain ⟨x1, h1, h2⟩ := o1_inv ht
          obtain ⟨y1, h3, h4⟩ := o1_inv h2
          cases h4
          exact eqz2 (k := .p) ⟨_, _, hd, hn⟩ (.inl ⟨rfl, rfl⟩) h1 h3 hx
        · obtain ⟨x1, h1, h2⟩ := o1_inv ht
          obtain ⟨y1, h3, h4⟩ := o1_inv h2
          cases h4
          exact eqz2 (k := .p) ⟨_, _, hd, hn⟩ (.inr ⟨rfl, rfl⟩) h1 h3 hx
        · cases ht
      · cases ht
    · rename_i fs hd
      split at ht
      · cases ht
      rename_i hgt
      split at ht
      · rename_i ks hk
        have hag : ∀ d, P.underlying t = some d → isAggD d = true := fun d h => by rw [hd] at h; cases h; rfl
        split at ht
        · obtain ⟨x1, h1, h2⟩ := o1_inv ht
          obtain ⟨y1, h3, h4⟩ := o1_inv h2
          cases h4
          exact eqa2 (by simpa using hgt) hk hag (.inl ⟨rfl, rfl⟩) h1 h3 hx
        · obtain ⟨x1, h1, h2⟩ := o1_inv ht
          obtain ⟨y1, h3, h4⟩ := o1_inv h2
          cases h4
          exact eqa2 (by simpa using hgt) hk hag (.inr ⟨rfl, rfl⟩) h1 h3 hx
        · cases ht
      · cases ht
    · rename_i n el hd
      split at ht
      · cases ht
      rename_i hgt
      split at ht
      · rename_i ks hk
        have hag : ∀ d, P.underlying t = some d → isAggD d = true := fun d h => by rw [hd] at h; cases h; rfl
        split at ht
        · obtain ⟨x1, h1, h2⟩ := o1_inv ht
          obtain ⟨y1, h3, h4⟩ := o1_inv h2
          cases h4
          exact eqa2 (by simpa using hgt) hk hag (.inl ⟨rfl, rfl⟩) h1 h3 hx
        · obtain ⟨x1, h1, h2⟩ := o1_inv ht
          obtain ⟨y1, h3, h4⟩ := o1_inv h2
          cases h4
          exact eqa2 (by simpa using hgt) hk hag (.inr ⟨rfl, rfl⟩) h1 h3 hx
        · cases ht
      · cases ht
    · cases ht
  · -- unOp
    rename_i op t x hop
    obtain ⟨b, h1, h2⟩ := o1_inv ht
    cases h2
    obtain ⟨v', k1, k2⟩ := sim_un (P := P) (w := w) (by simpa only [pure1] using hx) (rd h1)
    exact ⟨v', by simp [execOp, hop, k1], k2⟩
  · -- convert
    rename_i src dst x hop
    split at ht
    · rename_i k0 k hs hd
      obtain ⟨b, h1, h2⟩ := o1_inv ht
      cases h2
      have r1 := rd h1
      simp only [pure1] at hx
      split at hx
      · rename_i k1 n hv
        cases hx
        rw [hv] at r1; simp only [R] at r1
        refine ⟨.int k (k.wrap n), ?_, by simp only [R]⟩
        simp [execOp, hop, r1, convert, run_underlying hs, run_underlying hd, Conv.intToInt]
      · cases hx
    · cases ht
  · -- nilCheck
    rename_i x hop
    obtain ⟨b, h1, h2⟩ := o1_inv ht
    cases h2
    have r1 := rd h1
    simp only [pure1] at hx
    split at hx
    · rename_i q hv
      cases hx
      rw [hv] at r1
      have r2 := r1
      simp only [R] at r1
      obtain ⟨pl, _, r1⟩ := r1
      exact ⟨a.eval x, by simp [execOp, hop, r1], r2⟩
    · rename_i f c hv
      cases hx
      rw [hv] at r1
      have r2 := r1
      simp only [R] at r1
      obtain ⟨cs, r1, _⟩ := r1
      exact ⟨a.eval x, by simp [execOp, hop, r1], r2⟩
    · cases hx
  · -- fieldAddr
    rename_i s x f hop
    split at ht
    · rename_i fs hd
      split at ht
      · rename_i fl hf
        split at ht
        · rename_i n hn
          obtain ⟨b, h1, h2⟩ := o1_inv ht
          cases h2
          have r1 := rd h1
          simp only [pure1] at hx
          split at hx
          · rename_i id off hv
            cases hx
            rw [hv] at r1; simp only [R] at r1
            obtain ⟨pl, hpl, r1⟩ := r1
            refine ⟨.pointer (some ⟨pl.blk, off + fl.offset + pl.sh, none⟩), ?_, by simp only [R]; exact ⟨pl, hpl, rfl⟩⟩
            simp only [execOp, hop, Instr.fieldAt, Instr.sureAddr, r1, Sem.run_bind, run_underlying hd, Result.andThen_ok, hf, Sem.run_pure, fieldPlace, run_szOf hn]
            simp [addr_add]; omega
          · cases hx
        · cases ht
      · cases ht
    · cases ht
  · -- field
    rename_i s x f hop
    split at ht
    · rename_i fs hd
      split at ht
      · rename_i fl hf
        split at ht
        · rename_i d n hfd hn
          obtain ⟨b, h1, h2⟩ := o1_inv ht
          cases h2
          have r1 := rd h1
          simp only [pure1] at hx
          split at hx
          · rename_i l hv
            rw [hv] at r1; simp only [R] at r1
            obtain ⟨cs, r1, rl⟩ := r1
            obtain ⟨v', k1, k2⟩ := part_sim (w := w) hfd hn rl hx
            refine ⟨v', ?_, k2⟩
            simp only [Array.toArray_toList] at k1
            simp [execOp, hop, Instr.field, run_underlying hd, hf, r1, asAgg, k1]
          · cases hx
        · cases ht
      · cases ht
    · cases ht
  · -- index
    rename_i t x i hop
    split at ht
    · rename_i len el hd
      split at ht
      · rename_i d n hed hn
        obtain ⟨x1, h1, h2⟩ := o1_inv ht
        obtain ⟨i1, h3, h4⟩ := o1_inv h2
        cases h4
        have r1 := rd h1
        have r3 := rd h3
        simp only [pure1] at hx
        split at hx
        · rename_i l k j hv hj
          rw [hv] at r1; rw [hj] at r3; simp only [R] at r1 r3
          obtain ⟨cs, r1, rl⟩ := r1
          split at hx
          · rename_i hb
            obtain ⟨v', k1, k2⟩ := part_sim (w := w) hed hn rl hx
            refine ⟨v', ?_, k2⟩
            simp only [Array.toArray_toList] at k1
            simp [execOp, hop, Instr.index, asIntOf, r3, run_underlying hd, r1, hb, run_szOf hn, k1]
          · cases hx
        · cases hx
      · cases ht
    · rename_i hd
      obtain ⟨x1, h1, h2⟩ := o1_inv ht
      obtain ⟨i1, h3, h4⟩ := o1_inv h2
      cases h4
      have r1 := rd h1
      have r3 := rd h3
      simp only [pure1] at hx
      split at hx
      · rename_i s k j hv hj
        rw [hv] at r1; rw [hj] at r3; simp only [R] at r1 r3
        split at hx
        · rename_i hb
          split at hx
          · rename_i c hc
            cases hx
            refine ⟨.int .u8 c.toNat, ?_, by simp only [R]⟩
            simp [execOp, hop, Instr.index, asIntOf, r3, run_underlying hd, r1, hb, hc]
          · cases hx
        · cases hx
      · cases hx
    · cases ht
  · -- indexAddr
    rename_i t x i hop
    split at ht
    · rename_i el hd
      split at ht
      · rename_i n hn
        obtain ⟨x1, h1, h2⟩ := o1_inv ht
        obtain ⟨i1, h3, h4⟩ := o1_inv h2
        cases h4
        have r1 := rd h1
        have r3 := rd h3
        simp only [pure1] at hx
        split at hx
        · rename_i id off len c k j hv hj
          rw [hv] at r1; rw [hj] at r3; simp only [R] at r1 r3
          obtain ⟨pl, hpl, _, r1⟩ := r1
          split at hx
          · rename_i hb
            cases hx
            refine ⟨.pointer (some ⟨pl.blk, off + j.toNat * n + pl.sh, none⟩), ?_, by simp only [R]; exact ⟨pl, hpl, rfl⟩⟩
            simp [execOp, hop, Instr.indexAt, asIntOf, r3, run_underlying hd, r1, hb, run_szOf hn, addr_add]
            omega
          · cases hx
        · cases hx
      · cases ht
    · rename_i len el hd
      split at ht
      · rename_i n hn
        obtain ⟨x1, h1, h2⟩ := o1_inv ht
        obtain ⟨i1, h3, h4⟩ := o1_inv h2
        cases h4
        have r1 := rd h1
        have r3 := rd h3
        simp only [pure1] at hx
        split at hx
        · rename_i id off k j hv hj
          rw [hv] at r1; rw [hj] at r3; simp only [R] at r1 r3
          obtain ⟨pl, hpl, r1⟩ := r1
          split at hx
          · rename_i hb
            cases hx
            refine ⟨.pointer (some ⟨pl.blk, off + j.toNat * n + pl.sh, none⟩), ?_, by simp only [R]; exact ⟨pl, hpl, rfl⟩⟩
            simp [execOp, hop, Instr.indexAt, asIntOf, r3, run_underlying hd, r1, Instr.sureAddr, hb, run_szOf hn, addr_add]
            omega
          · cases hx
        · cases hx
      · cases ht
    · cases ht
  · -- slice
    rename_i t x lo hi mx hop
    have opt : ∀ {lo : Option Operand} {f : Option Opd → Option PO} {r : PO}, oo gs lo f = some r → ∃ l, f l = some r ∧ (∀ v, l.map (opd ts) = some v → ∃ u, lo.map a.eval = some u ∧ R e v u) ∧ (l.map (opd ts) = none → lo.map a.eval = none) := by
      intro lo f r h
      rcases oo_inv h with ⟨h1, h2⟩ | ⟨y, b, h1, h2, h3⟩
      · obtain ⟨k1, k2⟩ := oo_rel hg hr (x := lo) (y := none) (.inl ⟨h1, rfl⟩)
        exact ⟨none, h2, k1, k2⟩
      · obtain ⟨k1, k2⟩ := oo_rel hg hr (x := lo) (y := some b) (.inr ⟨y, b, h1, rfl, h2⟩)
        exact ⟨some b, h3, k1, k2⟩
    split at ht
    · rename_i el hd
      split at ht
      · rename_i n hn
        obtain ⟨x1, h1, h2⟩ := o1_inv ht
        obtain ⟨l1, h3, rl, rl0⟩ := opt h2
        obtain ⟨l2, h4, rh, rh0⟩ := opt h3
        obtain ⟨l3, h5, rm, rm0⟩ := opt h4
        cases h5
        simp only [pure1] at hx
        obtain ⟨b, len, cap, l, hh, m, e1, e2, e3⟩ := sim_slcut (P := P) (w := w) (Nat.succ_pos n) hx (rd h1) rl rl0 rh rh0 rm rm0 true
        refine ⟨_, ?_, e3⟩
        simp only [execOp, hop, Instr.sliceAt, Sem.run_bind, run_underlying hd, Result.andThen_ok, Instr.slice, e1, e2, run_szOf hn, Sem.run_pure, cutS]
      · cases ht
    · rename_i len el hd
      split at ht
      · rename_i n hn
        obtain ⟨x1, h1, h2⟩ := o1_inv ht
        obtain ⟨l1, h3, rl, rl0⟩ := opt h2
        obtain ⟨l2, h4, rh, rh0⟩ := opt h3
        obtain ⟨l3, h5, rm, rm0⟩ := opt h4
        cases h5
        have r1 := rd h1
        simp only [pure1] at hx
        split at hx
        · rename_i id off hv
          rw [hv] at r1; simp only [R] at r1
          obtain ⟨pl, hpl, r1⟩ := r1
          have rs : R e (.sl id off len (.ex len)) (.slice (some ⟨pl.blk, off + pl.sh, none⟩) len len) := by
            simp only [R]; exact ⟨pl, hpl, Nat.le_refl _, rfl⟩
          obtain ⟨b, len', cap', l, hh, m, e1, e2, e3⟩ := sim_slcut (P := P) (w := w) (Nat.succ_pos n) hx rs rl rl0 rh rh0 rm rm0 false
          cases e1
          refine ⟨_, ?_, e3⟩
          simp only [execOp, hop, Instr.sliceAt, Sem.run_bind, run_underlying hd, Result.andThen_ok, Instr.sureAddr, r1, Sem.run_pure, e2, run_szOf hn, cutS]
          congr 3
          split <;> simp
        · cases hx
      · cases ht
    · rename_i hd
      split at ht
      · obtain ⟨x1, h1, h2⟩ := o1_inv ht
        obtain ⟨l1, h3, rl, rl0⟩ := opt h2
        obtain ⟨l2, h4, rh, rh0⟩ := opt h3
        cases h4
        have r1 := rd h1
        simp only [pure1] at hx
        split at hx
        · rename_i s hv
          rw [hv] at r1; simp only [R] at r1
          split at hx
          · rename_i l hh m hb
            cases hx
            obtain ⟨k1, _⟩ := run_bounds (P := P) (w := w) (isS := false) hb (Nat.le_refl _) rl rl0 rh rh0 (mx' := none) (fun v h => by cases h) (fun _ => rfl)
            refine ⟨.string (s.extract l hh), ?_, by simp only [R]⟩
            simp [execOp, hop, Instr.sliceAt, run_underlying hd, Instr.slice, r1, k1]
          · cases hx
        · cases hx
      · cases ht
    · cases ht
  · -- makeFunc
    rename_i fn first caps hop
    split at ht
    · rename_i f
      split at ht
      · rename_i hz
        obtain ⟨l, h1, h2⟩ := os_inv ht
        cases h2
        simp only [pure1] at hx; cases hx
        have h0 : first = #[] := Array.eq_empty_of_size_eq_zero hz
        subst h0
        refine ⟨.func (.func f) #[] (caps.map a.eval), by simp [execOp, hop, Instr.makeFunc], ?_⟩
        simp only [R]
        exact ⟨_, rfl, by simpa using trOs_R hg hr h1⟩
      · cases ht
    · cases ht
  · -- extract
    rename_i x i hop
    obtain ⟨b, h1, h2⟩ := o1_inv ht
    cases h2
    have r1 := rd h1
    simp only [pure1] at hx
    split at hx
    · rename_i l hv
      rw [hv] at r1; simp only [R] at r1
      obtain ⟨cs, r1, rl⟩ := r1
      obtain ⟨v', k1, k2⟩ := rl.at hx
      refine ⟨v', ?_, k2⟩
      have : cs[i]? = some v' := by simpa using k1
      simp [execOp, hop, Instr.extract, r1, this]
    · cases hx
  · -- build
    rename_i t parts hop
    split at ht
    · rename_i fs z hd hz
      obtain ⟨zv, i, _, _, _, hzr, hzl⟩ := run_zeroOf hz
      split at ht
      · rename_i pl hpl
        split at ht
        · rename_i l hl
          cases ht
          simp only [pure1] at hx
          split at hx
          · rename_i out hf
            cases hx
            obtain ⟨C', k1, k2⟩ := sim_fill (e := e) hg hr parts.toList l z out zv.cells hl hf (hzl e)
            refine ⟨.agg C', ?_, by simp only [R]; exact ⟨_, rfl, k2⟩⟩
            have hpm := placesOf_get (P := P) (w := w) hpl
            have hpm2 : (fs.mapM (fun f => (do pure (f.offset, ← Go.sizeOf f.type) : Sem (Nat × Nat)))).run P w = .ok pl.toArray w := by
              rw [← Array.toArray_toList (xs := fs), List.mapM_toArray]
              rw [Sem.run_map, hpm]; rfl
            simp only [execOp, hop, Instr.build, Sem.run_bind, hzr, Result.andThen_ok, run_underlying hd, hpm2]
            have hm : (parts.map fun (i, x) => (i, a.eval x)).toList = parts.toList.map fun p => (p.1, a.eval p.2) := by simp
            rw [hm]
            have hp : (fun x : Nat => pl.toArray[x]?) = fun i : Nat => pl[i]? := by funext x; simp
            rw [hp, k1]
            rfl
          · cases hx
        · cases ht
      · cases ht
    · rename_i len el z hd hz
      obtain ⟨zv, i, _, _, _, hzr, hzl⟩ := run_zeroOf hz
      split at ht
      · rename_i n hn
        split at ht
        · rename_i l hl
          cases ht
          simp only [pure1] at hx
          split at hx
          · rename_i out hf
            cases hx
            obtain ⟨C', k1, k2⟩ := sim_fill (e := e) hg hr parts.toList l z out zv.cells hl hf (hzl e)
            refine ⟨.agg C', ?_, by simp only [R]; exact ⟨_, rfl, k2⟩⟩
            simp only [execOp, hop, Instr.build, Sem.run_bind, hzr, Result.andThen_ok, run_underlying hd, run_szOf hn]
            have hm : (parts.map fun (i, x) => (i, a.eval x)).toList = parts.toList.map fun p => (p.1, a.eval p.2) := by simp
            rw [hm, k1]
            rfl
          · cases hx
        · cases ht
      · cases ht
    · cases ht
  · -- call
    rename_i c hop
    exact call_pure_sound hg hr hop ht hx
  · -- panic: never
    cases ht
    simp only [pure1, opd] at hx; cases hx
  · cases ht
end
end Mx
