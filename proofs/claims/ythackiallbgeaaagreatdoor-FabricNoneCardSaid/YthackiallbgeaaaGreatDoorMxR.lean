import Derived.Test.YthackiallbgeaaaGreatDoorMxP
namespace Mx
open Go
section
variable {C C' : Nat → List V → H → Option (V × H)}
end
section
variable (IP : Nat → Option IFn)
def Fnc (f : Nat) (a : List V) (h : H) (Q : V → H → Prop) : Prop := ∃ k v h', ev IP k f a h = some (v, h') ∧ Q v h'
def Cod (c : IC) (ts : T) (h : H) (Q : X → T → H → Prop) : Prop := ∃ k x ts' h', runC (ev IP k) k c ts h = some (x, ts', h') ∧ Q x ts' h'
variable {IP}
theorem Fnc.mono {f : Nat} {a : List V} {h : H} {Q Q' : V → H → Prop} (hf : Fnc IP f a h Q) (hq : ∀ v h', Q v h' → Q' v h') : Fnc IP f a h Q' := by
  obtain ⟨k, v, h', e, q⟩ := hf
  exact ⟨k, v, h', e, hq _ _ q⟩
theorem Cod.mono {c : IC} {ts : T} {h : H} {Q Q' : X → T → H → Prop} (hf : Cod IP c ts h Q) (hq : ∀ x ts h', Q x ts h' → Q' x ts h') : Cod IP c ts h Q' := by
  obtain ⟨k, x, ts', h', e, q⟩ := hf
  exact ⟨k, x, ts', h', e, hq _ _ _ q⟩
def eff0 (ts : T) (h : H) (o : EO) : Option (V × H) := eff1 (fun _ _ _ => none) ts h o
def EO.calm : EO → Bool
  | .call _ _ => false
  | .callv _ _ => false
  | _ => true
theorem law_of_fnc {f : Nat} {a : List V} {h : H} (hf : Fnc IP f a h (fun v _ => v = .b true)) : ∃ k h', ev IP k f a h = some (.b true, h') := by
  obtain ⟨k, v, h', e, rfl⟩ := hf
  exact ⟨k, h', e⟩
end
end Mx
