/- Texts of this seat, one behind the other: Close. -/
import Derived.Test.YtippadnbngcjlaaGreatDoorh14
import Derived.WalkSpells
namespace Go.Proofs.YtippadnbngcjlaaGreatDoor
set_option linter.unusedVariables false

/- closed, Close. -/
section
open Go.RowKit
def inB (bs : List Bool) (i : Int) : Bool := decide (0 ≤ i) && bs.getD i.toNat false
def needsOf (L : List (List Int)) (x : Int) : List Int := L.getD x.toNat []
structure IsCl (L : List (List Int)) (set : List Int) (C : Int → Bool) : Prop where
 base : ∀ x ∈ set, C x = true
 step : ∀ x, C x = true → ∀ y ∈ needsOf L x, C y = true
 least : ∀ D : Int → Bool, (∀ x ∈ set, D x = true) → (∀ x, D x = true → ∀ y ∈ needsOf L x, D y = true) → ∀ x, C x = true → D x = true
structure ClInv (L : List (List Int)) (set : List Int) (bs : List Bool) (T : List Int) : Prop where
 base : ∀ x ∈ set, inB bs x = true ∨ x ∈ T
 step : ∀ x, inB bs x = true → ∀ y ∈ needsOf L x, inB bs y = true ∨ y ∈ T
 least : ∀ D : Int → Bool, (∀ x ∈ set, D x = true) → (∀ x, D x = true → ∀ y ∈ needsOf L x, D y = true) → (∀ x, inB bs x = true → D x = true) ∧ ∀ x ∈ T, D x = true
theorem inB_set {bs : List Bool} {x : Int} (h0 : 0 ≤ x) (h1 : x.toNat < bs.length) (i : Int) : inB (bs.set x.toNat true) i = (inB bs i || decide (i = x)) := by
 unfold inB
 by_cases hi : 0 ≤ i
 ·by_cases he : i = x
  ·subst he; simp [hi, h1]
  ·have : x.toNat ≠ i.toNat := by omega
   simp [hi, he, List.getElem?_set_ne this]
 ·have : ¬ i = x := by omega
  simp [hi, this]
theorem ClInv.start (L : List (List Int)) (set : List Int) (n : Nat) : ClInv L set (List.replicate n false) set := by
 have h : ∀ x, inB (List.replicate n false) x = false := fun x => by
  unfold inB
  by_cases hx : x.toNat < n <;> simp [hx]
 exact ⟨fun x hx => .inr hx, (fun x hx => by rw [h] at hx; cases hx), fun D h1 _ => ⟨(fun x hx => by rw [h] at hx; cases hx), h1⟩⟩
theorem ClInv.done {L : List (List Int)} {set : List Int} {bs : List Bool} (h : ClInv L set bs []) : IsCl L set (inB bs) :=
 ⟨fun x hx => (h.base x hx).resolve_right (by simp), fun x hx y hy => (h.step x hx y hy).resolve_right (by simp), fun D d1 d2 => (h.least D d1 d2).1⟩
def InR (n : Nat) (T : List Int) : Prop := ∀ x ∈ T, 0 ≤ x ∧ x < n
end

end Go.Proofs.YtippadnbngcjlaaGreatDoor
