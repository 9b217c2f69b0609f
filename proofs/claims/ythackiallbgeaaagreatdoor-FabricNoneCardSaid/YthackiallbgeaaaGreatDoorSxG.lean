import Derived.Test.YthackiallbgeaaaGreatDoorSxF
import Derived.Test.YthackiallbgeaaaGreatDoorMxW
import Derived.Test.YthackiallbgeaaaGreatDoorMxX
namespace Sx
noncomputable section
open Go Mx
section
variable {C : Nat → List S → SH → Tree} {k : Nat}
theorem sseq_eq {a b : IC} {Q : X → ES → SH → Tree} {B A : ES → SH → Tree} (pb : ds C k b Q = B) (pa : ds C k a (QxS B Q) = A) : ds C k (.seq a b) Q = A := by
  subst pb; exact pa
theorem scond_eq {c : Opd} {a b : IC} {Q : X → ES → SH → Tree} {B A : ES → SH → Tree} (pa : ds C k a Q = A) (pb : ds C k b Q = B) : ds C k (.cond c a b) Q = fun e h => kS (oES e c) (fun h => A e h) (fun h => B e h) h := by
  subst pa; subst pb; rfl
theorem sblock_eq {id : Nat} {c : IC} {Q : X → ES → SH → Tree} {A : ES → SH → Tree} (p : ds C k c (QbS id Q) = A) : ds C k (.block id c) Q = A := p
theorem sloop_eq {A : Type} (p : ES → A) (G : (A → SH → Tree) → A → SH → Tree) {c : IC} {Q : X → ES → SH → Tree} (hF : ∀ g : A → SH → Tree, ds C k c (QxS (fun e h => g (p e) h) Q) = fun e h => G g (p e) h) :
    ds C k (.loop c) Q = fun e h => kFix k G (p e) h := by
  show kFix k (fun g => ds C k c (QxS g Q)) = _
  have main : ∀ m, kFix m (fun g => ds C k c (QxS g Q)) = fun e h => kFix m G (p e) h := by
    intro m
    induction m with
    | zero => rfl
    | succ m im =>
      show ds C k c (QxS (kFix m _) Q) = _
      rw [im, hF]
      rfl
  exact main k
end
def ofO (o : O) : SO := { ro := o.ro, c := ofVs o.c }
def ofH (pc : PC) (h : H) : SH := { nx := h.nx, tr := trMap ofO h.tr, pc := pc }
theorem trMap_id {σ : Nat → Int} : ∀ t : Tr O, trMap (denO σ) (trMap ofO t) = t
  | .l => rfl
  | .n a v b => by
    simp only [trMap, trMap_id a, trMap_id b]
    cases v with
    | none => rfl
    | some o => simp only [Option.map_some, denO, ofO, dens_ofVs]
theorem denH_ofH {σ : Nat → Int} (pc : PC) (h : H) : denH σ (ofH pc h) = h := by
  simp only [denH, ofH, trMap_id]
def val (l : List Int) (i : Nat) : Int := l.getD i 0
def inB (k : IntKind) (i : Nat) (pc : PC) : PC := (.le (.lit k.min) (.tm (.var i)), true) :: (.le (.tm (.var i)) (.lit k.max), true) :: pc
theorem Sat_inB {σ : Nat → Int} {k : IntKind} {i : Nat} {pc : PC} (h1 : k.min ≤ σ i) (h2 : σ i ≤ k.max) (hs : Sat σ pc) : Sat σ (inB k i pc) := by
  refine ⟨?_, ?_, hs⟩
  · simp only [At.ev, SX.ev, Tm.ev]; exact decide_eq_true h1
  · simp only [At.ev, SX.ev, Tm.ev]; exact decide_eq_true h2
theorem Fnc_sym {IP : Nat → Option IFn} {RP : Nat → Option SF} (hR : ∀ (σ : Nat → Int) k, COk σ (srun RP k) (ev IP k)) (σ : Nat → Int) (k f : Nat) (a : List S) (pc : PC) (h : H) (hs : Sat σ pc)
    (e : (srun RP k f a (ofH pc h)).allT = true) : Fnc IP f (dens σ a) h (fun v _ => v = .b true) := by
  have := hR σ k f a (ofH pc h) hs
  rw [denH_ofH] at this
  obtain ⟨h', hr⟩ := allT_ok e this
  exact ⟨k, _, _, hr, rfl⟩
end
section
open Go Mx
def ymv (d n : Nat) : IOp := ⟨some d, .pu (.mov (.t n)), none⟩
def ync (d n : Nat) : IOp := ⟨some d, .pu (.nilc (.t n)), none⟩
def yfa (d o n : Nat) : IOp := ⟨some d, .pu (.fa o (.t n)), none⟩
def yl1 (d n : Nat) : IOp := ⟨some d, .ld false 1 (.t n), none⟩
def yla (d k n : Nat) : IOp := ⟨some d, .ld true k (.t n), none⟩
def yxt (d n k : Nat) : IOp := ⟨some d, .pu (.ext (.t n) k), none⟩
def ybt (d : Nat) (o : BinOp) (a b : Nat) : IOp := ⟨some d, .pu (.bin o (.t a) (.t b)), none⟩
def ybc (d : Nat) (o : BinOp) (a : Nat) (v : V) : IOp := ⟨some d, .pu (.bin o (.t a) (.c v)), none⟩
def ycl (d f : Nat) (l : List Opd) : IOp := ⟨some d, .ef (.call f l), none⟩
def yst (k a b : Nat) : IOp := ⟨none, .ef (.store k (.t a) (.t b)), none⟩
def yp (d : Nat) (o : PO) : IOp := ⟨some d, .pu o, none⟩
def ypg (d : Nat) (o : PO) (g : Nat) (w : Bool) : IOp := ⟨some d, .pu o, some (g, w)⟩
def ye (d : Nat) (o : EO) : IOp := ⟨some d, .ef o, none⟩
def yeg (d : Nat) (o : EO) (g : Nat) (w : Bool) : IOp := ⟨some d, .ef o, some (g, w)⟩
def yn (o : EO) : IOp := ⟨none, .ef o, none⟩
def ya (d : Nat) (o : AO) : IOp := ⟨some d, .al o, none⟩
def ylg (d n g : Nat) (w : Bool) : IOp := ⟨some d, .ld false 1 (.t n), some (g, w)⟩
def ymg (d n g : Nat) (w : Bool) : IOp := ⟨some d, .pu (.mov (.t n)), some (g, w)⟩
def ypf (d a b : Nat) : IOp := ⟨some d, .pu (.pick (.t a) (.t b) (.c (.b false))), none⟩
def ypt (d a b : Nat) : IOp := ⟨some d, .pu (.pick (.t a) (.c (.b true)) (.t b)), none⟩
def yr (l : List IOp) (c : IC) : IC := .seq (.region l) c
def k64 (n : Int) : Opd := .c (.i .i64 n)
def kfa : Opd := .c (.b false)
def ktr : Opd := .c (.b true)
def l64 (n : Int) : S := .i .i64 (.lit n)
end
end Sx
