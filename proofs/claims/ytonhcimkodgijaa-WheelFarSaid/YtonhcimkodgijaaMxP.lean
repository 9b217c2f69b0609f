/-
  What is handed in, as the abstract machine has it; and: a law that the abstract machine finds true, the loaded program does.
-/
import Derived.Test.YtonhcimkodgijaaMxO
import Derived.Below
import Derived.OpenShut
import Derived.Deep.Slices
import Derived.ChangeSame
import Derived.Carry
import Derived.SizedLaws
namespace Mx
open Go Go.WideShapes Go.ChangeShapes

inductive KK where
  | b
  | i (k : IntKind)
  | s
  deriving Inhabited

def KK.ok : KK → V → Prop
  | .b, v => ∃ x, v = .b x
  | .i k, v => ∃ n, v = .i k n ∧ (Lit.int k n).wf = true
  | .s, v => ∃ x : ByteArray, v = .s x ∧ x.size ≤ maxLen

def OkL : List KK → List V → Prop
  | [], xs => xs = []
  | k :: ks, xs => ∃ x r, xs = x :: r ∧ k.ok x ∧ OkL ks r

theorem OkL.append : ∀ {ks ls : List KK} {xs ys : List V}, OkL ks xs → OkL ls ys → OkL (ks ++ ls) (xs ++ ys)
  | [], ls, xs, ys, h, k => by simp only [OkL] at h; subst h; simpa using k
  | c :: ks, ls, xs, ys, h, k => by
    simp only [OkL] at h
    obtain ⟨x, r, rfl, h1, h2⟩ := h
    simp only [List.cons_append, OkL]
    exact ⟨x, r ++ ys, rfl, h1, OkL.append h2 k⟩

theorem OkL.length : ∀ {ks : List KK} {xs : List V}, OkL ks xs → xs.length = ks.length
  | [], xs, h => by simp only [OkL] at h; subst h; rfl
  | c :: ks, xs, h => by
    simp only [OkL] at h
    obtain ⟨x, r, rfl, _, h2⟩ := h
    simp [OkL.length h2]

def kkFs (P : Program) (g : TypeId → Option (List KK)) : List Field → Nat → Option (List KK)
  | [], _ => some []
  | f :: fs, o => if f.offset ≠ o then none else
    match g f.type, szOf P f.type with
    | some ks, some k => if ks.length = k then match kkFs P g fs (o + k) with
        | some r => some (ks ++ r)
        | none => none
      else none
    | _, _ => none

def kkOf (P : Program) : Nat → TypeId → Option (List KK)
  | 0, _ => none
  | d + 1, t => match P.underlying t with
    | some .bool => if szOf P t = some 1 then some [.b] else none
    | some (.int k) => if szOf P t = some 1 then some [.i k] else none
    | some .string => if szOf P t = some 1 then some [.s] else none
    | some (.struct fs) => match kkFs P (kkOf P d) fs.toList 0 with
      | some ks => if szOf P t = some ks.length then some ks else none
      | none => none
    | some (.array n e) => match kkOf P d e, szOf P e with
      | some ks, some k => if ks.length = k ∧ szOf P t = some (n * k) then some (List.replicate n ks).flatten else none
      | _, _ => none
    | _ => none

theorem cellsOf_sz {P : Program} {t : TypeId} {n : Nat} (h : szOf P t = some n) : P.cellsOf t = n := by
  unfold szOf at h
  split at h
  · rename_i i hi; cases h; simp [Program.cellsOf, hi]
  · cases h

section
variable {H' : Type} {enc : TypeId × Value → H'} {P : Program} {w : World} {base : Nat} {spare : Nat → Bool} {held : Bool} {e : En}

theorem read_fs {g : TypeId → Option (List KK)} {n : Nat} (ih : ∀ (t : TypeId) (ks : List KK), g t = some ks → szOf P t = some ks.length → ∀ (cs : List Value) (x : DataW H' × List MemPlace), DataW.trod enc P w base spare held n t cs = some x → ∃ xs, OkL ks xs ∧ RL e xs cs) (cs : List Value) :
    ∀ (fs : List Field) (o : Nat) (ks : List KK), kkFs P g fs o = some ks → (∀ f ∈ fs, ∃ y, DataW.trod enc P w base spare held n f.type ((cs.drop f.offset).take (P.cellsOf f.type)) = some y) →
    ∃ xs, OkL ks xs ∧ (o + ks.length ≤ cs.length → RL e xs ((cs.drop o).take ks.length))
  | [], o, ks, hk, _ => by
    simp only [kkFs] at hk; cases hk
    exact ⟨[], rfl, fun _ => by simp; exact RL_nil⟩
  | f :: fs, o, ks, hk, hf => by
    simp only [kkFs] at hk
    split at hk
    · cases hk
    rename_i ho
    have ho : f.offset = o := Decidable.byContradiction ho
    split at hk
    · rename_i k1 k hk1 hz
      split at hk
      · rename_i hlen
        split at hk
        · rename_i r hr
          cases hk
          obtain ⟨y, hy⟩ := hf f List.mem_cons_self
          rw [ho, cellsOf_sz hz] at hy
          obtain ⟨xs1, h1, h2⟩ := ih f.type k1 hk1 (by rw [hz, hlen]) _ _ hy
          obtain ⟨xs2, h3, h4⟩ := read_fs ih cs fs (o + k) r hr fun f' hf' => hf f' (List.mem_cons_of_mem _ hf')
          refine ⟨xs1 ++ xs2, h1.append h3, fun hb => ?_⟩
          rw [List.length_append, hlen] at hb ⊢
          have := h2.append (h4 (by omega))
          have e1 : (cs.drop o).take k ++ (cs.drop (o + k)).take r.length = (cs.drop o).take (k + r.length) := by
            rw [List.take_add, List.drop_drop]
          rw [e1] at this
          exact this
        · cases hk
      · cases hk
    · cases hk

theorem OkL.replicate {ks : List KK} : ∀ {rows : List (List V)}, (∀ r ∈ rows, OkL ks r) → OkL (List.replicate rows.length ks).flatten rows.flatten
  | [], _ => rfl
  | r :: rows, h => by
    simp only [List.length_cons, List.replicate_succ, List.flatten_cons]
    exact (h r List.mem_cons_self).append (OkL.replicate fun r' hr' => h r' (List.mem_cons_of_mem _ hr'))

theorem read_rows {g : List Value → Prop} {ks : List KK} {k : Nat} (hk : ks.length = k) (cs : List Value) (ih : ∀ c, g c → ∃ xs, OkL ks xs ∧ RL e xs c) :
    ∀ n, n * k ≤ cs.length → (∀ i, i < n → g ((cs.drop (i * k)).take k)) → ∃ rows : List (List V), rows.length = n ∧ (∀ r ∈ rows, OkL ks r) ∧ RL e rows.flatten (cs.take (n * k))
  | 0, _, _ => ⟨[], rfl, (fun r h => by cases h), by simp; exact RL_nil⟩
  | n + 1, hb, h => by
    rw [Nat.add_mul, Nat.one_mul] at hb
    obtain ⟨rows, h1, h2, h3⟩ := read_rows hk cs ih n (by omega) fun i hi => h i (by omega)
    obtain ⟨xs, h4, h5⟩ := ih _ (h n (by omega))
    refine ⟨rows ++ [xs], by simp [h1], ?_, ?_⟩
    · intro r hr
      rw [List.mem_append] at hr
      rcases hr with hr | hr
      · exact h2 r hr
      · simp at hr; subst hr; exact h4
    · rw [List.flatten_append, Nat.add_mul, Nat.one_mul, List.take_add]
      simpa using h3.append h5

theorem read_plain : ∀ (d : Nat) (t : TypeId) (ks : List KK), kkOf P d t = some ks → ∀ (fuel : Nat) (cs : List Value) (x : DataW H' × List MemPlace), DataW.trod enc P w base spare held fuel t cs = some x → ∃ xs, OkL ks xs ∧ RL e xs cs
  | 0, t, ks, hk, _, _, _, _ => by simp only [kkOf] at hk; cases hk
  | d + 1, t, ks, hk, fuel, cs, x, hx => by
    simp only [kkOf] at hk
    split at hk
    · rename_i hd
      split at hk
      · cases hk
        obtain ⟨b, rfl, _⟩ := DataW.trod_bool hd hx
        exact ⟨[.b b], ⟨_, _, rfl, ⟨b, rfl⟩, rfl⟩, RL_cons (by simp only [R]) RL_nil⟩
      · cases hk
    · rename_i k hd
      split at hk
      · cases hk
        obtain ⟨n, rfl, _, hw⟩ := DataW.trod_int hd hx
        exact ⟨[.i k n], ⟨_, _, rfl, ⟨n, rfl, hw⟩, rfl⟩, RL_cons (by simp only [R]) RL_nil⟩
      · cases hk
    · rename_i hd
      split at hk
      · cases hk
        obtain ⟨s, rfl, _, hw⟩ := DataW.trod_string hd hx
        exact ⟨[.s s], ⟨_, _, rfl, ⟨s, rfl, hw⟩, rfl⟩, RL_cons (by simp only [R]) RL_nil⟩
      · cases hk
    · rename_i fs hd
      split at hk
      · rename_i ks' hks
        split at hk
        · rename_i hz
          cases hk
          obtain ⟨xs, n, _, _, hlen, hxl, hf⟩ := DataW.trod_struct hd hx
          obtain ⟨ys, h1, h2⟩ := read_fs (P := P) (w := w) (enc := enc) (base := base) (spare := spare) (held := held) (e := e) (n := n) (fun t ks hk _ cs x hx => read_plain d t ks hk n cs x hx) cs fs.toList 0 ks hks (by
            intro f hfm
            obtain ⟨i, hi⟩ := List.mem_iff_getElem?.1 hfm
            have hi' : fs[i]? = some f := by simpa using hi
            have := hf i f hi'
            have hil : i < xs.length := by rw [hxl]; exact (Array.getElem?_eq_some_iff.1 hi').1
            rw [List.getElem?_eq_getElem hil] at this
            exact ⟨_, this⟩)
          rw [cellsOf_sz hz] at hlen
          refine ⟨ys, h1, ?_⟩
          have := h2 (by omega)
          rw [List.drop_zero, List.take_of_length_le (by omega)] at this
          exact this
        · cases hk
      · cases hk
    · rename_i n el hd
      split at hk
      · rename_i ks' k hks hz
        split at hk
        · rename_i hc
          cases hk
          obtain ⟨xs, m, _, _, hlen, hxl, hf⟩ := DataW.trod_array hd hx
          rw [cellsOf_sz hc.2] at hlen
          obtain ⟨rows, h1, h2, h3⟩ := read_rows (e := e) (g := fun c => ∃ y, DataW.trod enc P w base spare held m el c = some y) hc.1 cs (fun c ⟨y, hy⟩ => read_plain d el ks' hks m c y hy) n (by omega) (fun i hi => by
            have := hf i hi
            rw [List.getElem?_eq_getElem (by omega), cellsOf_sz hz] at this
            exact ⟨_, this⟩)
          refine ⟨rows.flatten, ?_, ?_⟩
          · rw [← h1]; exact OkL.replicate h2
          · rw [List.take_of_length_le (by omega)] at h3; exact h3
        · cases hk
      · cases hk
    · cases hk

/-! ### arguments -/
end
inductive AK where
  | pl (agg : Bool) (ks : List KK)
  | sl (ks : List KK)

def akOf (P : Program) (t : TypeId) : Option AK := match P.underlying t with
  | some (.slice el) => match kkOf P 20 el, szOf P el with
    | some ks, some n => if ks.length = n ∧ 0 < n then some (.sl ks) else none
    | _, _ => none
  | some .bool => match kkOf P 20 t with
    | some ks => some (.pl false ks)
    | none => none
  | some (.int _) => match kkOf P 20 t with
    | some ks => some (.pl false ks)
    | none => none
  | some .string => match kkOf P 20 t with
    | some ks => some (.pl false ks)
    | none => none
  | some (.struct _) => match kkOf P 20 t with
    | some ks => some (.pl true ks)
    | none => none
  | some (.array _ _) => match kkOf P 20 t with
    | some ks => some (.pl true ks)
    | none => none
  | _ => none
def aksOf (P : Program) : List TypeId → Option (List AK)
  | [] => some []
  | t :: l => match akOf P t, aksOf P l with
    | some a, some r => some (a :: r)
    | _, _ => none

/-- a slice that is handed in: a row that is only read -/
def SlOK (ks : List KK) (h : H) (v : V) (h' : H) : Prop :=
  (v = .nsl ∧ h' = h) ∨ (v = .es false ∧ h' = h) ∨
    ∃ (len cap : Nat) (rows : List (List V)), 0 < len ∧ len ≤ cap ∧ cap ≤ maxLen ∧ rows.length = len ∧ (∀ r ∈ rows, OkL ks r) ∧ v = .sl h.nx 0 len (.ex cap) ∧ h' = h.new { ro := true, c := rows.flatten }

def ArgsOK : List AK → H → List V → H → Prop
  | [], h, vs, h' => vs = [] ∧ h' = h
  | .pl agg ks :: l, h, vs, h' => ∃ xs rest, OkL ks xs ∧ vs = (if agg = true then .agg xs else xs.getD 0 undefV) :: rest ∧ ArgsOK l h rest h'
  | .sl ks :: l, h, vs, h' => ∃ v rest h1, SlOK ks h v h1 ∧ vs = v :: rest ∧ ArgsOK l h1 rest h'

/-- the heap as it is handed over: rows that came in alone -/
structure Given (e : En) (h : H) (w : World) : Prop where
  sim : Sim e h w
  ro : ∀ id o, h.get id = some o → o.ro = true
  none : ∀ id, h.nx ≤ id → e id = none

section
variable {H' : Type} {enc : TypeId × Value → H'} {P : Program} {w : World}

theorem Given.empty (w : World) : Given (fun _ => Option.none) ⟨0, .l⟩ w :=
  ⟨⟨fun id o pl h => by simp [H.get, Tr.get] at h, fun i j oi oj pi pj _ h => by simp [H.get, Tr.get] at h, fun _ _ => rfl⟩, fun id o h => by simp [H.get, Tr.get] at h, fun _ _ => rfl⟩

theorem Given.row {e : En} {h : H} (g : Given e h w) {c : List V} {b off : Nat} {C : Array Value} {t : TypeId} {fz : Nat × Nat} (hC : w.heap[b]? = some (.cells C t fz)) (hb : off + c.length ≤ C.size) (hr : RL e c ((C.toList.drop off).take c.length)) :
    Given (ext e h.nx ⟨b, off, 0⟩) (h.new { ro := true, c := c }) w := by
  have hle : Le e (ext e h.nx ⟨b, off, 0⟩) := Le.ext (g.none _ (Nat.le_refl _))
  refine ⟨⟨?_, ?_, ?_⟩, ?_, ?_⟩
  · intro id o pl ho hp
    rw [H.get_new] at ho
    by_cases hid : id = h.nx
    · subst hid
      rw [if_pos rfl] at ho; cases ho
      rw [ext_same] at hp; cases hp
      exact ⟨C, t, fz, hC, fun h => (by cases h), hb, RL.mono hle _ _ hr⟩
    · rw [if_neg hid] at ho
      rw [ext_other hid] at hp
      exact (g.sim.obj id o pl ho hp).mono hle rfl
  · intro i j oi oj pi pj _ hi hro
    rw [H.get_new] at hi
    by_cases hid : i = h.nx
    · rw [if_pos hid] at hi; cases hi; cases hro
    · rw [if_neg hid] at hi
      rw [g.ro i oi hi] at hro; cases hro
  · intro id hid
    rw [H.get_new]
    simp only [H.nx_new] at hid
    rw [if_neg (by omega)]
    exact g.sim.low id (by omega)
  · intro id o ho
    rw [H.get_new] at ho
    by_cases hid : id = h.nx
    · rw [if_pos hid] at ho; cases ho; rfl
    · rw [if_neg hid] at ho; exact g.ro id o ho
  · intro id hid
    simp only [H.nx_new] at hid
    rw [ext_other (by omega)]
    exact g.none id (by omega)

theorem slice_read {e : En} {h : H} (g : Given e h w) {t el : TypeId} {ks : List KK} {n : Nat} (hd : P.underlying t = some (.slice el)) (hk : kkOf P 20 el = some ks) (hn : szOf P el = some n) (hkn : ks.length = n) (hpos : 0 < n) {fuel : Nat} {cs : List Value} {x : DataW H' × List MemPlace}
    (hx : DataW.trod enc P w 0 (fun _ => true) true fuel t cs = some x) : ∃ v u e' h', cs = [u] ∧ SlOK ks h v h' ∧ R e' v u ∧ Given e' h' w ∧ Le e e' := by
  rcases Go.Deep.open_slice hd hx with ⟨rfl, _⟩ | ⟨a, len, cap, m, fu, D, Pl, rfl, _, hlc, hcm, hm, _, hel⟩
  · exact ⟨.nsl, _, e, h, rfl, .inl ⟨rfl, rfl⟩, by simp only [R], g, Le.refl _⟩
  · by_cases hl0 : len = 0
    · subst hl0
      exact ⟨.es false, _, e, h, rfl, .inr (.inl ⟨rfl, rfl⟩), by simp only [R]; exact ⟨a, cap, rfl, by simp⟩, g, Le.refl _⟩
    · simp only [if_true] at hm
      subst hm
      rw [cellsOf_sz hn] at hel
      -- the first cell
      obtain ⟨cs0, hc0, _⟩ := hel 0 (by omega)
      obtain ⟨_, hl1, hat⟩ := World.cells?_some hc0
      have hfirst := hat 0 hpos
      rw [List.getElem?_eq_getElem (by omega)] at hfirst
      have ha0 : (a.add (0 * n)).add 0 = a := by simp [Addr.add]
      rw [ha0] at hfirst
      have hspot : a.spot = none := by
        unfold World.cell? at hfirst
        split at hfirst
        · cases hs : a.spot with
          | none => rfl
          | some s => simp [hs] at hfirst
        · cases hfirst
      obtain ⟨ab, ao, asp⟩ := a
      simp only at hspot
      subst hspot
      have hblk : ∃ C tt fz, w.heap[ab]? = some (.cells C tt fz) := by
        unfold World.cell? at hfirst
        split at hfirst
        · rename_i C tt fz hC; exact ⟨C, tt, fz, hC⟩
        · cases hfirst
      obtain ⟨C, tt, fz, hC⟩ := hblk
      have cells : ∀ i, i < m → ∀ j, j < n → ∃ cs', w.cells? 0 ((⟨ab, ao, none⟩ : Addr).add (i * n)) n = some cs' ∧ cs'.length = n ∧ (∃ y, DataW.trod enc P w 0 (fun _ => true) true fu el cs' = some y) ∧ C[ao + i * n + j]? = cs'[j]? := by
        intro i hi j hj
        obtain ⟨cs', h1, h2⟩ := hel i hi
        obtain ⟨_, h3, h4⟩ := World.cells?_some h1
        refine ⟨cs', h1, h3, ⟨_, h2⟩, ?_⟩
        have := h4 j hj
        rw [addr_add, addr_add] at this
        simp only [World.cell?, hC, Option.isSome_none, Bool.false_eq_true, if_false] at this
        exact this
      have hsize : ao + len * n ≤ C.size := by
        obtain ⟨cs', _, h3, _, h5⟩ := cells (len - 1) (by omega) (n - 1) (by omega)
        rw [List.getElem?_eq_getElem (by omega)] at h5
        have := (Array.getElem?_eq_some_iff.1 h5).1
        have e1 : (len - 1) * n + n = len * n := by
          obtain ⟨l, rfl⟩ : ∃ l, len = l + 1 := ⟨len - 1, by omega⟩
          simp [Nat.add_mul]
        omega
      obtain ⟨rows, q1, q2, q3⟩ := read_rows (e := e) (g := fun c => ∃ y, DataW.trod enc P w 0 (fun _ => true) true fu el c = some y) hkn ((C.toList.drop ao).take (len * n)) (fun c ⟨y, hy⟩ => read_plain 20 el ks hk fu c y hy) len
        (by simp only [List.length_take, List.length_drop, Array.length_toList]; omega)
        (fun i hi => by
          have hin : i * n + n ≤ len * n := by
            have := Nat.mul_le_mul_right n (show i + 1 ≤ len by omega)
            rw [Nat.add_mul, Nat.one_mul] at this; exact this
          obtain ⟨cs', _, h3, hy, _⟩ := cells i (by omega) 0 hpos
          have : ((List.take (len * n) (List.drop ao C.toList)).drop (i * n)).take n = cs' := by
            apply List.ext_getElem?
            intro j
            rw [seg_cut C.toList ao (len * n) (i * n) n hin, List.getElem?_take]
            by_cases hj : j < n
            · rw [if_pos hj, List.getElem?_drop]
              obtain ⟨cs2, h6, h7, _, h8⟩ := cells i (by omega) j hj
              have hcc : cs2 = cs' := by
                obtain ⟨cs3, h9, _, _, _⟩ := cells i (by omega) 0 hpos
                have hA := ‹w.cells? 0 ((⟨ab, ao, none⟩ : Addr).add (i * n)) n = some cs'›
                rw [h6] at hA; cases hA; rfl
              rw [← hcc, ← h8, Array.getElem?_toList]
              congr 1; omega
            · rw [if_neg hj, List.getElem?_eq_none (by omega)]
          rw [this]; exact hy)
      have hrl : rows.flatten.length = len * n := by
        have := q3.length
        simp only [List.length_take, List.length_drop, Array.length_toList] at this
        omega
      rw [List.take_take, Nat.min_self] at q3
      have hgiven := g.row hC (c := rows.flatten) (off := ao) (by omega) (by rw [hrl]; exact q3)
      refine ⟨.sl h.nx 0 len (.ex m), _, _, _, rfl, .inr (.inr ⟨len, m, rows, by omega, hlc, hcm, q1, q2, rfl, rfl⟩), ?_, hgiven, Le.ext (g.none _ (Nat.le_refl _))⟩
      simp only [R]
      exact ⟨_, ext_same _ _ _, hlc, by simp [capOf]⟩

theorem args_read : ∀ (aks : List AK) (ts : List TypeId), aksOf P ts = some aks → ∀ (vs : List Value) (ds : List (DataW H')) (ps : List MemPlace), DataW.TrodAll enc P w 0 (fun _ => true) true ts vs ds ps →
    (∀ (j : Nat) (t : TypeId) (v : Value), ts[j]? = some t → vs[j]? = some v → ∃ r b, Value.okWide P w r b t v) → ∀ (e : En) (h : H), Given e h w →
    ∃ us e' h', ArgsOK aks h us h' ∧ RL e' us vs ∧ Given e' h' w ∧ Le e e'
  | aks, [], ha, vs, ds, ps, ht, _, e, h, g => by
    simp only [aksOf] at ha; cases ha
    cases vs with
    | nil => exact ⟨[], e, h, ⟨rfl, rfl⟩, RL_nil, g, Le.refl _⟩
    | cons v vs => cases ds <;> simp [DataW.TrodAll] at ht
  | aks, t :: ts, ha, vs, ds, ps, ht, hok, e, h, g => by
    simp only [aksOf] at ha
    split at ha
    · rename_i ak r h1 h2
      cases ha
      cases vs with
      | nil => cases ds <;> simp [DataW.TrodAll] at ht
      | cons v vs =>
        cases ds with
        | nil => simp [DataW.TrodAll] at ht
        | cons d ds =>
          obtain ⟨p, q, ⟨fuel, hx⟩, hrest, _⟩ := ht
          obtain ⟨rr, bb, hv⟩ := hok 0 t v rfl rfl
          have next : ∀ (e1 : En) (h1 : H), Given e1 h1 w → ∃ us e' h', ArgsOK r h1 us h' ∧ RL e' us vs ∧ Given e' h' w ∧ Le e1 e' := fun e1 h1 g1 => args_read r ts h2 vs ds q hrest (fun j t' v' hj hv' => hok (j + 1) t' v' (by simpa using hj) (by simpa using hv')) e1 h1 g1
          have plain : ∀ (agg : Bool) (ks : List KK), ak = .pl agg ks → kkOf P 20 t = some ks → (agg = true → ∃ cs : Array Value, v = .agg cs) → (agg = false → v.cells = #[v] ∧ ks.length = 1) →
              ∃ us e' h', ArgsOK (ak :: r) h us h' ∧ RL e' us (v :: vs) ∧ Given e' h' w ∧ Le e e' := by
            intro agg ks hak hk hagg hone
            subst hak
            obtain ⟨xs, k1, k2⟩ := read_plain (e := e) 20 t ks hk fuel _ _ hx
            obtain ⟨us, e', h', m1, m2, m3, m4⟩ := next e h g
            refine ⟨(if agg = true then .agg xs else xs.getD 0 undefV) :: us, e', h', ⟨xs, us, k1, rfl, m1⟩, RL_cons (R.mono m4 _ _ ?_) m2, m3, m4⟩
            cases agg with
            | true =>
              obtain ⟨cs, rfl⟩ := hagg rfl
              simp only [if_true, R]
              exact ⟨cs, rfl, k2⟩
            | false =>
              obtain ⟨o1, o2⟩ := hone rfl
              rw [o1] at k2
              match xs, k1.length.trans o2 with
              | [y], _ =>
                obtain ⟨u, _, hu, ru, _⟩ := RL_cons_inv k2
                simp at hu
                obtain ⟨rfl, _⟩ := hu
                exact ru
          unfold akOf at h1
          split at h1
          · rename_i el hd
            split at h1
            · rename_i ks n hk hn
              split at h1
              · rename_i hc
                cases h1
                have hvs : ∃ a l c, v = .slice a l c := by
                  simp only [Value.okWide, hd, Cell.okWide] at hv
                  cases v <;> simp_all [Cell.ok]
                obtain ⟨va, vl, vc, rfl⟩ := hvs
                obtain ⟨x, u, e1, hh1, k1, k2, k3, k4, k5⟩ := slice_read g hd hk hn hc.1 hc.2 hx
                simp [Value.cells] at k1
                subst k1
                obtain ⟨us, e', h', m1, m2, m3, m4⟩ := next e1 hh1 k4
                exact ⟨x :: us, e', h', ⟨x, us, hh1, k2, rfl, m1⟩, RL_cons (R.mono m4 _ _ k3) m2, m3, k5.trans m4⟩
              · cases h1
            · cases h1
          · rename_i hd
            split at h1
            · rename_i ks hk
              cases h1
              obtain ⟨b, rfl⟩ := okWide_bool hd hv
              refine plain false ks rfl hk (by simp) (fun _ => ⟨rfl, ?_⟩)
              simp only [kkOf, hd] at hk
              split at hk <;> cases hk; rfl
            · cases h1
          · rename_i k hd
            split at h1
            · rename_i ks hk
              cases h1
              obtain ⟨b, rfl⟩ := okWide_int hd hv
              refine plain false ks rfl hk (by simp) (fun _ => ⟨rfl, ?_⟩)
              simp only [kkOf, hd] at hk
              split at hk <;> cases hk; rfl
            · cases h1
          · rename_i hd
            split at h1
            · rename_i ks hk
              cases h1
              obtain ⟨b, rfl⟩ := okWide_string hd hv
              refine plain false ks rfl hk (by simp) (fun _ => ⟨rfl, ?_⟩)
              simp only [kkOf, hd] at hk
              split at hk <;> cases hk; rfl
            · cases h1
          · rename_i fs hd
            split at h1
            · rename_i ks hk
              cases h1
              obtain ⟨cs, rfl, _⟩ := okWide_struct hd hv
              exact plain true ks rfl hk (fun _ => ⟨cs, rfl⟩) (by simp)
            · cases h1
          · rename_i n el hd
            split at h1
            · rename_i ks hk
              cases h1
              have : ∃ cs, v = .agg cs := by
                simp only [Value.okWide, hd] at hv
                obtain ⟨cs, hcs, _⟩ := hv
                exact ⟨cs, hcs⟩
              exact plain true ks rfl hk (fun _ => this) (by simp)
            · cases h1
          · cases h1
    · cases ha

/-- A LAW THAT THE ABSTRACT MACHINE FINDS TRUE: the loaded program does, and leaves all that was there alone. -/
theorem law_calls {IP : Nat → Option IFn} (hP : ProgOK P 0 IP) {f : Nat} {aks : List AK} {ts : List TypeId} (hak : aksOf P ts = some aks) (hpure : ∀ vs h, ArgsOK aks ⟨0, .l⟩ vs h → ∃ k h', ev IP k f vs h = some (.b true, h'))
    {args : Array Value} {ds : List (DataW H')} {ps : List MemPlace} (ht : DataW.TrodAll enc P w 0 (fun _ => true) true ts args.toList ds ps) (hok : ∀ (j : Nat) (t : TypeId) (v : Value), ts[j]? = some t → args.toList[j]? = some v → ∃ r b, Value.okWide P w r b t v) :
    Calls P f args w fun en w' => en = .returned (.bool true) ∧ Go.RowKit.Below w.heap.size w w' := by
  obtain ⟨us, e, h, k1, k2, k3, _⟩ := args_read aks ts hak args.toList ds ps ht hok _ _ (Given.empty w)
  obtain ⟨k, h', hev⟩ := hpure us h k1
  have hfresh : Fresh e h.nx h'.nx := fun id h1 _ => k3.none id h1
  have hglob : Glob e 0 := fun g hg => by omega
  refine ((ev_sound hP k f us h _ _ hev).2 e w args k2 k3.sim hglob hfresh).mono ?_
  rintro en w' ⟨v', rfl, e', r1, _, st⟩
  simp only [R] at r1
  subst r1
  refine ⟨rfl, st.os, st.tape, st.output, st.size, fun b hb => st.keep b hb ?_⟩
  rintro ⟨id, o, pl, h1, h2, _⟩
  rw [k3.ro id o h1] at h2; cases h2
end
end Mx
