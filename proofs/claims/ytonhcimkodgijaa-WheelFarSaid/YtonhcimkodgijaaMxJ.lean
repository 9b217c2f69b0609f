/-
  New rows, stores, copies, calls: the same in the abstract machine and in the loaded program.
-/
import Derived.Test.YtonhcimkodgijaaMxI
namespace Mx
open Go

def sameOpd : Operand → Operand → Bool
  | .tmp a, .tmp b => a == b
  | .const (.int _ m), .const (.int _ n) => m == n
  | _, _ => false

def trAO (P : Program) (gs : Nat) : Go.Op → Option AO
  | .alloc t => match zeroOf P t with
    | some z => some (.zero z)
    | none => none
  | .box _ x => o1 gs x fun a => some (.box a)
  | .buildSlice t len parts => match P.underlying t with
    | some (.slice el) => match szOf P el, zeroOf P el with
      | some n, some z => if len * n ≤ 16777216 ∧ z.length = n then
          match trParts gs (fun i => some (i * n, n)) parts.toList with
          | some l => some (.sl len ((List.range (len * n)).map fun i => z.getD (i % n) undefV) l)
          | none => none
        else none
      | _, _ => none
    | _ => none
  | .makeSlice t l c => match P.underlying t with
    | some (.slice el) => match P.info? el, zeroOf P el with
      | some i, some z => if sameOpd l c = true then o1 gs l fun a => some (.mks i.bytes z a) else none
      | _, _ => none
    | _ => none
  | _ => none

/-- a call: of a function, of a value, of a builtin function that changes rows -/
def trEC (P : Program) (gs : Nat) (c : Go.Call) : Option EO :=
  match c.callee with
  | .value f => match f with
    | .func g => os gs c.args.toList fun l => some (.call g l)
    | x => o1 gs x fun a => os gs c.args.toList fun l => some (.callv a l)
  | .invoke _ _ => none
  | .builtin b => match b with
    | .append => match c.args.toList, c.argTypes.toList with
      | [s, x], [t, t'] => if t = t' then match P.underlying t with
          | some (.slice el) => match P.info? el, zeroOf P el with
            | some i, some _ => if 0 < i.size then o1 gs s fun a => o1 gs x fun b => some (.app i.size i.bytes a b) else none
            | _, _ => none
          | _ => none
        else match P.underlying t, P.underlying t' with
          | some (.slice el), some (.int .i64) => match P.info? el, zeroOf P el with
            | some i, some z => if 0 < i.size then o1 gs s fun a => o1 gs x fun b => some (.appz i.size i.bytes z a b) else none
            | _, _ => none
          | _, _ => none
      | _, _ => none
    | .clear => match c.args.toList, c.argTypes.toList with
      | [x], [t] => match P.underlying t with
        | some (.slice el) => match zeroOf P el with
          | some z => o1 gs x fun a => some (.clear z a)
          | none => none
        | _ => none
      | _, _ => none
    | .copy => match c.args.toList, c.argTypes.toList with
      | [d, x], [t, _] => match P.underlying t with
        | some (.slice el) => match szOf P el with
          | some n => o1 gs d fun a => o1 gs x fun b => some (.copy n a b)
          | none => none
        | _ => none
      | _, _ => none
    | _ => none

def trEO (P : Program) (gs : Nat) : Go.Op → Option EO
  | .store t a x => match szOf P t with
    | some n => o1 gs a fun a => o1 gs x fun b => some (.store n a b)
    | none => none
  | .convert src dst x => match P.underlying src, P.underlying dst with
    | some (.slice el), some .string => match P.underlying el with
      | some (.int .u8) => o1 gs x fun a => some (.btos a)
      | _ => none
    | some .string, some (.slice el) => match P.underlying el with
      | some (.int .u8) => o1 gs x fun a => some (.stob a)
      | _ => none
    | _, _ => none
  | .call c => trEC P gs c
  | _ => none

def Post (e : En) (h : H) (w : World) (v : V) (h' : H) (en : Ending) (w' : World) : Prop := ∃ v', en = .returned v' ∧ StepTo e h w v h' v' w'

/-- what the functions that are called come to is what the loaded ones come to -/
def CallOK (P : Program) (gs : Nat) (C : Nat → List V → H → Option (V × H)) : Prop :=
  ∀ f args h v h', C f args h = some (v, h') → (∃ fn, P.funcs[f]? = some fn ∧ (fn.name == "runtime.NumGoroutine") = false ∧ fn.body.isNone = false) ∧
    ∀ (e : En) (w : World) (args' : Array Value), RL e args args'.toList → Sim e h w → Glob e gs → Fresh e h.nx h'.nx → Calls P f args' w (Post e h w v h')

section
variable {P : Program} {e : En} {w : World} {gs : Nat}

theorem alloc_sound (hg : Glob e gs) {ts : T} {a : Act} (hr : RL e ts a.tmps.toList) {o : Oper} {ao : AO} (ht : trAO P gs o.op = some ao) {h h' : H} {v : V} (hx : alloc1 ts h ao = some (v, h')) (s : Sim e h w) (hf : e h.nx = none) :
    ∃ v' w', (execOp a.eval o).run P w = .ok (.value v') w' ∧ StepTo e h w v h' v' w' := by
  have rd : ∀ {x : Operand} {y : Opd}, trO gs x = some y → R e (opd ts y) (a.eval x) := fun h => trO_R hg hr h
  have rp : ∀ (n : Nat), R (ext e h.nx ⟨w.heap.size, 0, n⟩) (.p (some (h.nx, 0))) (.pointer (some ⟨w.heap.size, 0, none⟩)) := by
    intro n; simp only [R]; exact ⟨_, ext_same _ _ _, rfl⟩
  have rs : ∀ (n m : Nat), R (ext e h.nx ⟨w.heap.size, 0, n⟩) (.sl h.nx 0 m (.ex m)) (.slice (some ⟨w.heap.size, 0, none⟩) m m) := by
    intro n m; simp only [R]; exact ⟨_, ext_same _ _ _, Nat.le_refl _, rfl⟩
  unfold trAO at ht
  split at ht
  · rename_i t hop
    split at ht
    · rename_i z hz
      cases ht
      simp only [alloc1] at hx; cases hx
      obtain ⟨zv, i, _, _, _, hzr, hzl⟩ := run_zeroOf hz
      refine ⟨.pointer (some ⟨w.heap.size, 0, none⟩), w.alloc (.cells zv.cells t), ?_, new_step s hf z false zv.cells t (hzl e) _ _ (rp _)⟩
      simp [execOp, hop, Instr.alloc, hzr, newVar, newRow, run_newObj]
    · cases ht
  · rename_i t x hop
    obtain ⟨b, h1, h2⟩ := o1_inv ht
    cases h2
    simp only [alloc1] at hx
    split at hx
    · cases hx
      refine ⟨.pointer (some ⟨w.heap.size, 0, none⟩), w.alloc (.cells (a.eval x).cells t), ?_, new_step s hf _ false _ t (R_cells (rd h1)) _ _ (rp _)⟩
      simp [execOp, hop, Instr.box, newVar, newRow, run_newObj]
    · cases hx
  · rename_i t len parts hop
    split at ht
    · rename_i el hd
      split at ht
      · rename_i n z hn hz
        split at ht
        · rename_i hb
          split at ht
          · rename_i l hl
            cases ht
            simp only [alloc1] at hx
            split at hx
            · rename_i out hf'
              cases hx
              obtain ⟨zv, i, _, _, hzs, hzr, hzl⟩ := run_zeroOf hz
              have hzlen := (hzl e).length
              simp only [Array.length_toList] at hzlen
              have hbase : RL e ((List.range (len * n)).map fun i => z.getD (i % n) undefV) ((Array.range (len * n)).map ((if len * n = 0 then #[] else zv.cells)[· % (if len * n = 0 then #[] else zv.cells).size]!)).toList := by
                refine RL.of (by simp) fun k x hk => ?_
                rw [List.getElem?_map] at hk
                by_cases hkb : k < len * n
                · rw [List.getElem?_range hkb] at hk
                  simp only [Option.map_some, Option.some.injEq] at hk
                  have hne : ¬ (len * n = 0) := by omega
                  have hn0 : 0 < n := Nat.pos_of_ne_zero fun h => by subst h; simp at hkb
                  have hmod : k % n < zv.cells.size := by rw [← hzlen, hb.2]; exact Nat.mod_lt _ hn0
                  refine ⟨zv.cells[k % n], ?_, ?_⟩
                  · simp only [hne, if_false, Array.toList_map, Array.toList_range, List.getElem?_map, List.getElem?_range hkb, Option.map_some]
                    rw [← hzlen, hb.2]
                    simp [hmod]
                  · subst hk
                    have := (hzl e).getD (k % n)
                    simpa [List.getD_eq_getElem?_getD, hmod] using this
                · rw [List.getElem?_eq_none (by simp; omega)] at hk
                  cases hk
              obtain ⟨C', k1, k2⟩ := sim_fill (e := e) hg hr parts.toList l _ out _ hl hf' hbase
              refine ⟨.slice (some ⟨w.heap.size, 0, none⟩) len len, w.alloc (.cells C' el), ?_, new_step s hf out false C' el k2 _ _ (rs _ _)⟩
              have hm : (parts.map fun (i, x) => (i, a.eval x)).toList = parts.toList.map fun p => (p.1, a.eval p.2) := by simp
              have hgt : ¬ (len * n > 2 ^ 24) := by omega
              simp only [execOp, hop, Instr.buildSlice, Sem.run_bind, run_underlying hd, Result.andThen_ok, run_szOf hn, if_neg hgt, hm]
              by_cases h0 : len * n = 0
              · simp only [h0, if_true] at k1 ⊢
                simp only [Sem.run_bind, Sem.run_pure, Result.andThen_ok, k1]
                rfl
              · simp only [h0, if_false] at k1 ⊢
                simp only [Sem.run_bind, hzr, Sem.run_pure, Result.andThen_ok, k1]
                rfl
            · cases hx
          · cases ht
        · cases ht
      · cases ht
    · cases ht
  · rename_i t l c hop
    split at ht
    · rename_i el hd
      split at ht
      · rename_i i z hi hz
        split at ht
        · rename_i hsame
          obtain ⟨b, h1, h2⟩ := o1_inv ht
          cases h2
          have r1 := rd h1
          simp only [alloc1] at hx
          split at hx
          · rename_i k n hv
            rw [hv] at r1; simp only [R] at r1
            split at hx
            · rename_i hb
              cases hx
              obtain ⟨zv, i', hi', hzv, hzs, hzr, hzl⟩ := run_zeroOf hz
              rw [hi] at hi'; cases hi'
              have rc : ∃ k', a.eval c = .int k' n := by
                cases l <;> cases c <;> simp only [sameOpd] at hsame
                · rename_i x y
                  have : x = y := by simpa using hsame
                  subst this; exact ⟨_, r1⟩
                all_goals first | (cases hsame; done) | skip
                rename_i x y
                cases x <;> cases y <;> simp only at hsame
                all_goals first | (cases hsame; done) | skip
                simp only [Act.eval, Value.int.injEq] at r1 ⊢
                have hmn := eq_of_beq hsame
                obtain ⟨rfl, rfl⟩ := r1
                exact ⟨_, rfl, hmn.symm⟩
              obtain ⟨k', rc⟩ := rc
              have r47 : room = 140737488355328 := rfl
              have hbytes : (i.bytes : Int) * n ≤ 281474976710656 := by
                have : ((n.toNat * i.bytes : Nat) : Int) ≤ 140737488355328 := by omega
                rw [Int.natCast_mul, Int.toNat_of_nonneg hb.1] at this
                rw [Int.mul_comm]; omega
              have hrun := run_make (P := P) w t el i zv hd hi hzv k k' n n hb.1 (Int.le_refl _) hbytes hb.2.2
              refine ⟨_, _, by simp only [execOp, hop, r1, rc, Sem.run_bind, hrun, Result.andThen_ok]; rfl, ?_⟩
              have := new_step s hf (zrep z n.toNat) false (madeCells zv.cells (n.toNat * i.size)) el (by rw [← hzs]; exact toList_madeCells (hzl e) n.toNat) _ _ (rs _ n.toNat)
              exact this
            · cases hx
          · cases hx
        · cases ht
      · cases ht
    · cases ht
  · cases ht

theorem run_clear {t el ty : TypeId} (hd : P.underlying t = some (.slice el)) {zv : Value} (hz : ∀ w : World, (zeroValue el).run P w = .ok zv w) (b : Addr) (n c : Nat) (hn : n ≠ 0) {w' : World} (hst : (storeCells b (Builtin.zeroCells zv.cells n).toList).run P w = .ok () w') :
    (Builtin.clear_ #[t] ty #[.slice (some b) n c]).run P w = .ok (.tuple #[]) w' := by
  obtain ⟨m, rfl⟩ : ∃ m, n = m + 1 := ⟨n - 1, by omega⟩
  simp [Builtin.clear_, run_underlying hd, hz, hst]

theorem zeroCells_eq (z : Array Value) (n : Nat) : Builtin.zeroCells z n = madeCells z (n * z.size) := rfl

theorem bytesOf_R : ∀ {l : List V} {ns : List Int} {vs : List Value}, bytesOf l = some ns → RL e l vs → vs = ns.map (Value.int .u8)
  | [], ns, vs, h1, h2 => by simp only [bytesOf] at h1; cases h1; rw [RL_nil_inv h2]; rfl
  | x :: l, ns, vs, h1, h2 => by
    obtain ⟨u, r, rfl, ru, rr⟩ := RL_cons_inv h2
    cases x with
    | i k m =>
      cases k <;> simp only [bytesOf] at h1 <;> try cases h1
      split at h1
      · rename_i r' hr'
        cases h1
        simp only [R] at ru
        rw [ru, bytesOf_R hr' rr]; rfl
      · cases h1
    | _ => simp [bytesOf] at h1

theorem btos_run {h : H} (s : Sim e h w) {X : V} {xv : Value} {l : List V} {ns : List Int} (hl : source 1 h X = some l) (hns : bytesOf l = some ns) (r1 : R e X xv) :
    ∃ y n c, xv = .slice y n c ∧ (Conv.bytesToString (.slice y n c)).run P w = .ok (.string (ns.foldl (fun r n => r.push (UInt8.ofNat n.toNat)) ByteArray.empty)) w := by
  cases X with
  | sl id off len cp =>
    simp only [source] at hl
    simp only [R] at r1
    obtain ⟨pl, hpl, _, r1⟩ := r1
    obtain ⟨vs, k1, k2, k3⟩ := load_cells s hl hpl
    have hvs := bytesOf_R hns k1
    have hload := run_loadCells_list (P := P) (w := w) ⟨pl.blk, off + pl.sh, none⟩ vs k3
    rw [k2, Nat.mul_one, hvs] at hload
    exact ⟨_, _, _, r1, run_bytesToString w _ len (capOf pl off cp) ns hload⟩
  | nsl =>
    simp only [source] at hl; cases hl
    simp only [bytesOf] at hns; cases hns
    simp only [R] at r1
    exact ⟨_, _, _, r1, rfl⟩
  | es z =>
    simp only [source] at hl; cases hl
    simp only [bytesOf] at hns; cases hns
    simp only [R] at r1
    obtain ⟨ad, c, r1, _⟩ := r1
    have hload : (loadCells ad 0).run P w = .ok (([] : List Int).map (Value.int .u8)).toArray w := rfl
    exact ⟨_, _, _, r1, run_bytesToString w ad 0 c [] hload⟩
  | so id off es =>
    simp only [source] at hl; cases hl
    simp only [bytesOf] at hns; cases hns
    obtain ⟨ad, c, r1, _⟩ := R_so r1
    have hload : (loadCells ad 0).run P w = .ok (([] : List Int).map (Value.int .u8)).toArray w := rfl
    exact ⟨_, _, _, r1, run_bytesToString w ad 0 c [] hload⟩
  | _ => simp [source] at hl

theorem freeze_new (w : World) (C : Array Value) (t : TypeId) (off n : Nat) (hn : n ≠ 0) : (w.alloc (.cells C t)).freeze ⟨w.heap.size, off, none⟩ n = w.alloc (.cells C t (off, off + n)) := by
  simp only [World.freeze, if_neg hn, World.alloc]
  congr 1
  apply Array.ext
  · simp
  · intro k h1 h2
    simp only [Array.getElem_modify, Array.getElem_push]
    by_cases hk : k < w.heap.size
    · have : ¬ (w.heap.size = k) := by omega
      simp [hk, this]
    · have : w.heap.size = k := by simp at h2; omega
      simp [this]

theorem stob_run {h : H} (s : Sim e h w) (hf : e h.nx = none) {el : TypeId} (b : ByteArray) :
    ∃ v' w', (Conv.stringToBytes el b).run P w = .ok v' w' ∧ StepTo e h w (.sl h.nx 0 b.size (.op 1)) (h.new { ro := true, c := b.toList.map fun c => .i .u8 c.toNat }) v' w' := by
  have hge := grownCap_ge w b.size 0 el
  have hC : ((b.data.map fun c => Value.int .u8 c.toNat) ++ Array.replicate (grownCap w b.size 0 el - b.size) (Value.int .u8 0)).size = grownCap w b.size 0 el := by
    simp only [Array.size_append, Array.size_map, Array.size_replicate]
    have : b.data.size = b.size := rfl
    omega
  refine ⟨.slice (some ⟨w.heap.size, 0, none⟩) b.size (grownCap w b.size 0 el), w.drew.alloc (.cells ((b.data.map fun c => Value.int .u8 c.toNat) ++ Array.replicate (grownCap w b.size 0 el - b.size) (Value.int .u8 0)) el (grownCap w b.size 0 el, grownCap w b.size 0 el + 1)), ?_, ?_⟩
  · have hfr := freeze_new w.drew ((b.data.map fun c => Value.int .u8 c.toNat) ++ Array.replicate (grownCap w b.size 0 el - b.size) (Value.int .u8 0)) el (grownCap w b.size 0 el) 1 (by simp)
    simp only [World.size_drew] at hfr
    have hsh : (w.drew.alloc (.cells ((b.data.map fun c => Value.int .u8 c.toNat) ++ Array.replicate (grownCap w b.size 0 el - b.size) (Value.int .u8 0)) el)).shape? w.heap.size = some (el, grownCap w b.size 0 el) := by
      simp only [World.shape?]
      have := heap_alloc_new w.drew (.cells ((b.data.map fun c => Value.int .u8 c.toNat) ++ Array.replicate (grownCap w b.size 0 el - b.size) (Value.int .u8 0)) el)
      simp only [World.size_drew] at this
      rw [this]
      simp only [hC]
    unfold Conv.stringToBytes
    simp only [Sem.run_bind, run_choose, Question.forced, Bool.false_eq_true, if_false, Result.andThen_ok, newRow, run_newObj, Sem.run_pure, markStringish, run_shape]
    simp only [World.alloc, World.drew, grownCap] at hsh hfr ⊢
    rw [hsh]
    simp only [run_freeze, hfr, Result.andThen_ok]
  · have hf' : e h.nx = none := hf
    obtain ⟨k1, k2⟩ := s.drew.newF hf' { ro := true, c := b.toList.map fun c => .i .u8 c.toNat } ((b.data.map fun c => Value.int .u8 c.toNat) ++ Array.replicate (grownCap w b.size 0 el - b.size) (Value.int .u8 0)) el (grownCap w b.size 0 el, grownCap w b.size 0 el + 1) (by simp)
      ⟨b.toList.map fun c => .int .u8 c.toNat, by
        rw [ByteArray.toList_eq]
        simp, by
        refine RL.of (by simp) fun k x hk => ?_
        rw [List.getElem?_map] at hk ⊢
        cases hx : b.toList[k]? with
        | none => rw [hx] at hk; cases hk
        | some c => rw [hx] at hk; simp at hk; subst hk; exact ⟨_, rfl, by simp only [R]⟩⟩
    have : StepTo e h w.drew (.sl h.nx 0 b.size (.op 1)) (h.new { ro := true, c := b.toList.map fun c => .i .u8 c.toNat }) (.slice (some ⟨w.heap.size, 0, none⟩) b.size (grownCap w b.size 0 el)) _ := ⟨_, by
      simp only [R]
      refine ⟨_, ext_same _ _ _, ⟨by omega, ?_⟩, ?_⟩
      · simp only [hC]; omega
      · simp only [capOf, hC, World.size_drew]; simp, k1, k2⟩
    exact this.drew

theorem copy_sound {t t' el ty : TypeId} {n0 : Nat} (hd : P.underlying t = some (.slice el)) (hn : szOf P el = some n0) {h h' : H} (s : Sim e h w) {D X v : V} {dv xv : Value} (rd : R e D dv) (rx : R e X xv) {C : Nat → List V → H → Option (V × H)} {ts : T} {d x : Opd}
    (hD : opd ts d = D) (hX : opd ts x = X) (hx : eff1 C ts h (.copy n0 d x) = some (v, h')) :
    ∃ v' w', (Builtin.copy_ #[t, t'] ty #[dv, xv]).run P w = .ok v' w' ∧ StepTo e h w v h' v' w' := by
  simp only [eff1, hD, hX] at hx
  split at hx
  · rename_i m n l hm hnn hl
    -- what is copied
    have src : ∃ (q : Option Addr) (c : Nat) (vs : List Value), xv = .slice q n c ∧ RL e l vs ∧ vs.length = n * n0 ∧ ∀ k, k ≤ n → (Builtin.firstCells n0 k xv).run P w = .ok (vs.take (k * n0)).toArray w := by
      cases X <;> simp [lenV] at hnn
      · rename_i id off len cp
        subst hnn
        simp only [R] at rx
        obtain ⟨pl, hpl, _, rx⟩ := rx
        simp only [source] at hl
        obtain ⟨vs, k1, k2, k3⟩ := load_cells s hl hpl
        refine ⟨_, _, vs, rx, k1, k2, fun k hk => ?_⟩
        have hkl : k * n0 ≤ len * n0 := Nat.mul_le_mul_right _ hk
        have := run_loadCells_list (P := P) (w := w) ⟨pl.blk, off + pl.sh, none⟩ (vs.take (k * n0)) (fun j u hj => by
          rw [List.getElem?_take] at hj
          split at hj
          · exact k3 j u hj
          · cases hj)
        rw [List.length_take, Nat.min_eq_left (by omega)] at this
        rw [rx]
        simp only [Builtin.firstCells, this]
      · subst hnn
        simp only [source] at hl; cases hl
        simp only [R] at rx
        refine ⟨_, _, [], rx, RL_nil, by simp, fun k hk => ?_⟩
        rw [rx]; simp [Builtin.firstCells]
      · subst hnn
        simp only [source] at hl; cases hl
        simp only [R] at rx
        obtain ⟨q, c, rx, _⟩ := rx
        refine ⟨_, _, [], rx, RL_nil, by simp, fun k hk => ?_⟩
        have : k = 0 := by omega
        subst this
        rw [rx]; simp [Builtin.firstCells, loadCells, loadCellsFrom]
      · subst hnn
        simp only [source] at hl; cases hl
        obtain ⟨q, c, rx, _⟩ := R_so rx
        refine ⟨_, _, [], rx, RL_nil, by simp, fun k hk => ?_⟩
        have : k = 0 := by omega
        subst this
        rw [rx]; simp [Builtin.firstCells, loadCells, loadCellsFrom]
    obtain ⟨q, c, vs, hxv, rl, hvl, hfirst⟩ := src
    have hlen : (Builtin.lenOf xv).run P w = .ok n w := by rw [hxv]; rfl
    have hfc := hfirst (Nat.min n m) (Nat.min_le_left _ _)
    cases D with
    | sl id off len cp =>
      simp only at hx
      split at hx
      · rename_i h1 hst
        cases hx
        simp only [lenV, Option.some.injEq] at hm
        subst hm
        simp only [R] at rd
        obtain ⟨pl, hpl, _, rd⟩ := rd
        obtain ⟨w', k1, k2⟩ := store_step (P := P) s hst hpl (rl.take (Nat.min n len * n0)) (.i .i64 (Nat.min n len : Nat)) (.int .i64 (Nat.min n len : Nat)) (by simp only [R])
        refine ⟨.int .i64 (Nat.min n len : Nat), w', ?_, k2⟩
        rw [rd]
        unfold Builtin.copy_
        simp only [List.getElem?_toArray, List.getElem?_cons_zero, List.getElem?_cons_succ, Sem.run_bind, run_underlying hd, Result.andThen_ok, hlen, run_szOf hn, hfc, k1, Sem.run_pure, goInt]
      · cases hx
    | nsl =>
      simp only [lenV, Option.some.injEq] at hm
      subst hm
      simp only [if_true] at hx
      cases hx
      simp only [R] at rd
      refine ⟨.int .i64 0, w, ?_, e, by simp only [R], s, St.refl _ _ _⟩
      rw [rd]
      unfold Builtin.copy_
      have hfc0 := hfirst 0 (Nat.zero_le _)
      have hmin : Nat.min n 0 = 0 := Nat.min_zero n
      simp only [List.getElem?_toArray, List.getElem?_cons_zero, List.getElem?_cons_succ, Sem.run_bind, run_underlying hd, Result.andThen_ok, hlen, run_szOf hn, Sem.run_pure, goInt, hmin, hfc0]
      rfl
    | es z =>
      simp only [lenV, Option.some.injEq] at hm
      subst hm
      simp only [if_true] at hx
      cases hx
      simp only [R] at rd
      obtain ⟨ad, c', rd, _⟩ := rd
      refine ⟨.int .i64 0, w, ?_, e, by simp only [R], s, St.refl _ _ _⟩
      rw [rd]
      unfold Builtin.copy_
      have hfc0 := hfirst 0 (Nat.zero_le _)
      have hmin : Nat.min n 0 = 0 := Nat.min_zero n
      simp only [List.getElem?_toArray, List.getElem?_cons_zero, List.getElem?_cons_succ, Sem.run_bind, run_underlying hd, Result.andThen_ok, hlen, run_szOf hn, Sem.run_pure, goInt, hmin, hfc0]
      simp [storeCells]
    | so id off es =>
      simp only [lenV, Option.some.injEq] at hm
      subst hm
      simp only [if_true] at hx
      cases hx
      obtain ⟨ad, c', rd, _⟩ := R_so rd
      refine ⟨.int .i64 0, w, ?_, e, by simp only [R], s, St.refl _ _ _⟩
      rw [rd]
      unfold Builtin.copy_
      have hfc0 := hfirst 0 (Nat.zero_le _)
      have hmin : Nat.min n 0 = 0 := Nat.min_zero n
      simp only [List.getElem?_toArray, List.getElem?_cons_zero, List.getElem?_cons_succ, Sem.run_bind, run_underlying hd, Result.andThen_ok, hlen, run_szOf hn, Sem.run_pure, goInt, hmin, hfc0]
      simp [storeCells]
    | _ => simp [lenV] at hm
  · cases hx

/-- what changes rows (but calls) -/
theorem eff_sound (hg : Glob e gs) {ts : T} {a : Act} (hr : RL e ts a.tmps.toList) {o : Oper} {eo : EO} (ht : trEO P gs o.op = some eo) {C : Nat → List V → H → Option (V × H)} (hC : CallOK P gs C) {h h' : H} {v : V}
    (hx : eff1 C ts h eo = some (v, h')) (s : Sim e h w) (hf : Fresh e h.nx h'.nx) {K : Act → World → Prop} {Q : Exit → Act → World → Prop} (hK : ∀ v' w', StepTo e h w v h' v' w' → K (a.put o.dst v') w') : o.wp P a w K Q := by
  have rd : ∀ {x : Operand} {y : Opd}, trO gs x = some y → R e (opd ts y) (a.eval x) := fun h => trO_R hg hr h
  have val : ∀ {v' : Value} {w' : World}, (execOp a.eval o).run P w = .ok (.value v') w' → StepTo e h w v h' v' w' → o.wp P a w K Q := by
    intro v' w' h1 h2
    unfold Oper.wp; rw [h1]; exact hK _ _ h2
  have enter : ∀ {f : FuncId} {args' : Array Value} {l : List V}, C f l h = some (v, h') → RL e l args'.toList → (execOp a.eval o).run P w = (callFunc f args').run P w → o.wp P a w K Q := by
    intro f args' l h1 h2 h3
    obtain ⟨⟨fn, hfn, hname, hbody⟩, hcall⟩ := hC f l h v h' h1
    have hc := hcall e w args' h2 s hg hf
    unfold Oper.wp
    have : (callFunc f args').run P w = .ok (.enter f args') w := by
      simp only [callFunc, Sem.run_bind, run_program, Result.andThen_ok, hfn, hname, Bool.false_eq_true, if_false, hbody]
      rfl
    rw [h3, this]
    exact hc.mono fun en w' ⟨v', hen, hst⟩ => by subst hen; exact hK _ _ hst
  unfold trEO at ht
  split at ht
  · -- store
    rename_i t x y hop
    split at ht
    · rename_i n hn
      obtain ⟨x1, h1, h2⟩ := o1_inv ht
      obtain ⟨y1, h3, h4⟩ := o1_inv h2
      cases h4
      have r1 := rd h1
      have r3 := rd h3
      simp only [eff1] at hx
      split at hx
      · rename_i id off hv
        rw [hv] at r1; simp only [R] at r1
        obtain ⟨pl, hpl, r1⟩ := r1
        split at hx
        · rename_i hlen
          split at hx
          · rename_i h1' hst
            cases hx
            have hcl := (R_cells r3).length
            simp only [Array.length_toList] at hcl
            obtain ⟨w', k1, k2⟩ := store_step (P := P) s hst hpl (R_cells r3) undefV undef (R_undef e)
            unfold Oper.wp
            have : (execOp a.eval o).run P w = .ok .skip w' := by
              have hne : ¬ ((a.eval y).cells.size ≠ n) := by omega
              simp only [execOp, hop, Instr.storeAt, Instr.sureAddr, r1, storeVar, Sem.run_bind, Sem.run_pure, Result.andThen_ok, run_szOf hn, if_neg hne, k1]
            rw [this]
            exact hK _ _ k2
          · cases hx
        · cases hx
      · cases hx
    · cases ht
  · -- convert
    rename_i src dst x hop
    split at ht
    · rename_i el hs hd
      split at ht
      · rename_i hel
        obtain ⟨x1, h1, h2⟩ := o1_inv ht
        cases h2
        have r1 := rd h1
        simp only [eff1] at hx
        split at hx
        · rename_i l hl
          split at hx
          · rename_i ns hns
            cases hx
            obtain ⟨y, n, c, hy, hb⟩ := btos_run (P := P) s hl hns r1
            refine val (v' := .string (ns.foldl (fun r n => r.push (UInt8.ofNat n.toNat)) ByteArray.empty)) (w' := w) ?_ ⟨e, by simp only [R], s, St.refl _ _ _⟩
            simp only [execOp, hop, hy, Sem.run_bind, run_convert_bytes_string w src dst el y n c hs hel hd, hb, Result.andThen_ok, Sem.run_pure]
          · cases hx
        · cases hx
      · cases ht
    · rename_i el hs hd
      split at ht
      · rename_i hel
        obtain ⟨x1, h1, h2⟩ := o1_inv ht
        cases h2
        have r1 := rd h1
        simp only [eff1] at hx
        split at hx
        · rename_i t hv
          split at hx
          · rename_i hb
            cases hx
            rw [hv] at r1; simp only [R] at r1
            obtain ⟨v', w', k1, k2⟩ := stob_run (P := P) s (hf _ (Nat.le_refl _) (Nat.lt_succ_self _)) (el := el) t
            refine val (v' := v') (w' := w') ?_ k2
            simp only [execOp, hop, r1, convert, Sem.run_bind, run_underlying hs, run_underlying hd, run_underlying hel, k1, Result.andThen_ok, Sem.run_pure]
          · cases hx
        · cases hx
      · cases ht
    · cases ht
  · -- call
    rename_i c hop
    obtain ⟨cal, cargs, ctys⟩ := c
    unfold trEC at ht
    cases cal with
    | invoke r m => cases ht
    | value f =>
      have isv : ∀ {X : Operand} {x1 : Opd} {l : List Opd}, X = f → trO gs X = some x1 → trOs gs cargs.toList = some l → eff1 C ts h (.callv x1 l) = some (v, h') → o.wp P a w K Q := by
        intro X x1 l hX h1 h2 hx
        subst hX
        simp only [eff1] at hx
        have r1 := rd h1
        split at hx
        · rename_i g caps hv
          rw [hv] at r1; simp only [R] at r1
          obtain ⟨cs, r1, rl⟩ := r1
          refine enter (args' := cargs.map a.eval ++ cs) hx ?_ ?_
          · simp only [Array.toList_append, Array.toList_map]
            exact (trOs_R hg hr h2).append rl
          · simp only [execOp, hop, resolve, Sem.run_bind, Deferred.ofValue, r1, Sem.run_pure, Result.andThen_ok, invoke]
            simp
        · cases hx
      cases f with
      | func g =>
        simp only at ht
        obtain ⟨l, h1, h2⟩ := os_inv ht
        cases h2
        simp only [eff1] at hx
        refine enter (args' := cargs.map a.eval) hx ?_ ?_
        · simp only [Array.toList_map]
          exact trOs_R hg hr h1
        · simp only [execOp, hop, resolve, Sem.run_bind, Act.eval, Deferred.ofValue, Sem.run_pure, Result.andThen_ok, invoke]
          simp
      | tmp t =>
        simp only at ht
        obtain ⟨x1, h1, h2⟩ := o1_inv ht
        obtain ⟨l, h3, h4⟩ := os_inv h2
        cases h4
        exact isv rfl h1 h3 hx
      | const t =>
        simp only at ht
        obtain ⟨x1, h1, h2⟩ := o1_inv ht
        obtain ⟨l, h3, h4⟩ := os_inv h2
        cases h4
        exact isv rfl h1 h3 hx
      | global t =>
        simp only at ht
        obtain ⟨x1, h1, h2⟩ := o1_inv ht
        obtain ⟨l, h3, h4⟩ := os_inv h2
        cases h4
        exact isv rfl h1 h3 hx
    | builtin b =>
      obtain ⟨cs, hrun⟩ := run_callB (P := P) (w := w) (a := a) hop
      simp only at ht
      split at ht
      · -- append
        split at ht
        · rename_i x y t t' hargs htys
          have ea : cargs = #[x, y] := by rw [← hargs]
          have et : ctys = #[t, t'] := by rw [← htys]
          subst ea; subst et
          split at ht
          · rename_i htt
            subst htt
            split at ht
            · rename_i el hd
              split at ht
              · rename_i i z hi hz
                split at ht
                · rename_i hpos
                  obtain ⟨x1, h1, h2⟩ := o1_inv ht
                  obtain ⟨y1, h3, h4⟩ := o1_inv h2
                  cases h4
                  simp only [eff1] at hx
                  split at hx
                  · rename_i n new hn hnew
                    obtain ⟨zv, i', hi', hzv, hzs, hzr, hzl⟩ := run_zeroOf hz
                    rw [hi] at hi'; cases hi'
                    obtain ⟨v', w', k1, k2⟩ := app_sound (P := P) (ty := o.type) hd hi hzv hzs (hzl e) hpos s hf (rd h1) (rd h3) hn hnew hx
                    refine val (v' := v') (w' := w') ?_ k2
                    rw [hrun]
                    simp only [builtin, List.map_toArray, List.map_cons, List.map_nil, Sem.run_bind, k1, Result.andThen_ok, Sem.run_pure]
                  · cases hx
                · cases ht
              · cases ht
            · cases ht
          · split at ht
            · rename_i el hd hu
              split at ht
              · rename_i i z hi hz
                split at ht
                · rename_i hpos
                  obtain ⟨x1, h1, h2⟩ := o1_inv ht
                  obtain ⟨y1, h3, h4⟩ := o1_inv h2
                  cases h4
                  simp only [eff1] at hx
                  obtain ⟨zv, i', hi', hzv, hzs, hzr, hzl⟩ := run_zeroOf hz
                  rw [hi] at hi'; cases hi'
                  obtain ⟨v', w', k1, k2⟩ := appz_sound (P := P) (ty := o.type) hd hu hi hzv hzs (hzl e) hpos s hf (rd h1) (rd h3) hx
                  refine val (v' := v') (w' := w') ?_ k2
                  rw [hrun]
                  simp only [builtin, List.map_toArray, List.map_cons, List.map_nil, Sem.run_bind, k1, Result.andThen_ok, Sem.run_pure]
                · cases ht
              · cases ht
            · cases ht
        · cases ht
      · -- clear
        split at ht
        · rename_i x t hargs htys
          have ea : cargs = #[x] := by rw [← hargs]
          have et : ctys = #[t] := by rw [← htys]
          subst ea; subst et
          split at ht
          · rename_i el hd
            split at ht
            · rename_i z hz
              obtain ⟨x1, h1, h2⟩ := o1_inv ht
              cases h2
              have r1 := rd h1
              obtain ⟨zv, i', hi', hzv, hzs, hzr, hzl⟩ := run_zeroOf hz
              simp only [eff1] at hx
              have nothing : ∀ {b : Option Addr} {n c : Nat}, a.eval x = .slice b n c → (n = 0 ∨ b = none) → o.wp P a w K Q ∨ True := fun _ _ => .inr trivial
              split at hx
              · rename_i id off n cp hv
                rw [hv] at r1; simp only [R] at r1
                obtain ⟨pl, hpl, _, r1⟩ := r1
                split at hx
                · rename_i hn0
                  subst hn0
                  cases hx
                  refine val (v' := .tuple #[]) (w' := w) ?_ ⟨e, R_undef e, s, St.refl _ _ _⟩
                  rw [hrun]
                  simp [builtin, Builtin.clear_, run_underlying hd, r1]
                · rename_i hn0
                  split at hx
                  · rename_i h1' hst
                    cases hx
                    have hzz : RL e (zrep z n) (Builtin.zeroCells zv.cells n).toList := by
                      have hl := (hzl e).length
                      simp only [Array.length_toList] at hl
                      rw [zeroCells_eq, ← hl]
                      exact toList_madeCells (hzl e) n
                    obtain ⟨w', k1, k2⟩ := store_step (P := P) s hst hpl hzz undefV undef (R_undef e)
                    refine val (v' := .tuple #[]) (w' := w') ?_ k2
                    rw [hrun]
                    have := run_clear (P := P) (ty := o.type) hd hzr _ n (capOf pl off cp) hn0 k1
                    simp only [builtin, List.map_toArray, List.map_cons, List.map_nil, r1, Sem.run_bind, this, Result.andThen_ok, Sem.run_pure]
                  · cases hx
              · rename_i hv
                rw [hv] at r1; simp only [R] at r1
                cases hx
                refine val (v' := .tuple #[]) (w' := w) ?_ ⟨e, R_undef e, s, St.refl _ _ _⟩
                rw [hrun]
                simp [builtin, Builtin.clear_, run_underlying hd, r1]
              · rename_i hv
                rw [hv] at r1; simp only [R] at r1
                obtain ⟨ad, c, r1, _⟩ := r1
                cases hx
                refine val (v' := .tuple #[]) (w' := w) ?_ ⟨e, R_undef e, s, St.refl _ _ _⟩
                rw [hrun]
                simp [builtin, Builtin.clear_, run_underlying hd, r1]
              · rename_i hv
                rw [hv] at r1
                obtain ⟨ad, c, r1, _⟩ := R_so r1
                cases hx
                refine val (v' := .tuple #[]) (w' := w) ?_ ⟨e, R_undef e, s, St.refl _ _ _⟩
                rw [hrun]
                simp [builtin, Builtin.clear_, run_underlying hd, r1]
              · cases hx
            · cases ht
          · cases ht
        · cases ht
      · -- copy
        split at ht
        · rename_i x y t t' hargs htys
          have ea : cargs = #[x, y] := by rw [← hargs]
          have et : ctys = #[t, t'] := by rw [← htys]
          subst ea; subst et
          split at ht
          · rename_i el hd
            split at ht
            · rename_i n hn
              obtain ⟨x1, h1, h2⟩ := o1_inv ht
              obtain ⟨y1, h3, h4⟩ := o1_inv h2
              cases h4
              obtain ⟨v', w', k1, k2⟩ := copy_sound (P := P) (t' := t') (ty := o.type) hd hn s (rd h1) (rd h3) rfl rfl hx
              refine val (v' := v') (w' := w') ?_ k2
              rw [hrun]
              simp only [builtin, List.map_toArray, List.map_cons, List.map_nil, Sem.run_bind, k1, Result.andThen_ok, Sem.run_pure]
            · cases ht
          · cases ht
        · cases ht
      · cases ht
  · cases ht
end
end Mx
