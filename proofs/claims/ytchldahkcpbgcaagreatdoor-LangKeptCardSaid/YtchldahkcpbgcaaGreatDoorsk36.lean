/- Texts of this seat, one behind the other: ScW. -/
import Derived.Test.YtchldahkcpbgcaaGreatDoorsk25
import Derived.Test.YtchldahkcpbgcaaGreatDoorsk6
import Derived.Test.YtchldahkcpbgcaaGreatDoorsk7
import Derived.Test.YtchldahkcpbgcaaGreatDoorsk17
import Derived.Test.YtchldahkcpbgcaaGreatDoorsk15
namespace Go.Proofs.YtchldahkcpbgcaaGreatDoor
set_option linter.unusedVariables false

/- What a scope holds in memory. -/
section
open Go.RowKit
set_option linter.unusedSimpArgs false
abbrev NmR (w : World) (b : Nat) (A : Option Addr) (c : Nat) (l : List ByteArray) : Prop := w.ownsRow (b + 1) 9 1 (.slice A l.length c) l.length (l.map .string)
def Apt (A B : Option Addr) : Prop := ∀ a a', A = some a → B = some a' → a.block ≠ a'.block
theorem Apt.symm {A B : Option Addr} (h : Apt A B) : Apt B A := fun a a' h1 h2 e => h a' a h2 h1 e.symm
theorem Apt.none_ (A : Option Addr) : Apt A none := fun a a' _ h => by cases h
theorem NmR.keep {w w' : World} {b n n' m c c' d : Nat} {A A' B : Option Addr} {e : TypeId} {sz : Nat} {ys : List Value} (hu : w.ownsRow b e sz (.slice B m d) m ys) (hne : Apt A B) (hg : w.grownBy w' (Value.slice A n c).ownBlock)
    (hat : (Value.slice A' n' c').ownBlock = (Value.slice A n c).ownBlock ∨ (Value.slice A' n' c').ownBlock = some w.heap.size) : w'.ownsRow b e sz (.slice B m d) m ys ∧ Apt A' B := by
  refine ⟨hu.kept hg ?_, fun a a' h1 h2 => ?_⟩
  · cases B with
    | none => exact .inl rfl
    | some a' =>
      refine .inr fun h => ?_
      cases A with
      | none => cases h
      | some a =>
        simp [Value.ownBlock] at h
        exact hne a a' rfl rfl h.symm
  · subst h1 h2
    rcases hat with h | h
    · cases A with
      | none => cases h
      | some x =>
        simp [Value.ownBlock] at h
        rw [h]
        exact hne x a' rfl rfl
    · simp [Value.ownBlock] at h
      have := (hu.lt a'.block rfl).2
      omega
structure ScR (b : Nat) (c : Sc) (w : World) (A1 : Option Addr) (c1 : Nat) (A2 : Option Addr) (c2 : Nat) (A3 : Option Addr) (c3 : Nat) : Prop where
 o1 : NmR w b A1 c1 c.decl
 o2 : NmR w b A2 c2 c.outer
 o3 : NmR w b A3 c3 c.inner
 n12 : Apt A1 A2
 n13 : Apt A1 A3
 n23 : Apt A2 A3
 l1 : c.decl.length ≤ 64
 l2 : c.outer.length ≤ c.decl.length
 l3 : c.inner.length ≤ c.decl.length
abbrev scC (mb : Nat) (stv : Value) (c : Sc) (A1 : Option Addr) (c1 : Nat) (A2 : Option Addr) (c2 : Nat) (A3 : Option Addr) (c3 : Nat) : Array Value :=
 #[.map (some mb), .slice A1 c.decl.length c1, .slice A2 c.outer.length c2, .slice A3 c.inner.length c3, .bool c.inFn, .int .i64 c.fault, stv, .bool c.ended]
def ScW (b mb : Nat) (stv : Value) (c : Sc) (w : World) : Prop := ∃ A1 c1 A2 c2 A3 c3, Blk w b 161 (scC mb stv c A1 c1 A2 c2 A3 c3) ∧ ScR b c w A1 c1 A2 c2 A3 c3
section
variable {b mb : Nat} {stv : Value} {c : Sc} {w w' : World} {Z : List Nat} {A1 A2 A3 : Option Addr} {c1 c2 c3 : Nat}
theorem ScR.fr (h : ScR b c w A1 c1 A2 c2 A3 c3) (hf : Fr Z w w') (hZ : ∀ k ∈ Z, k ≤ b) : ScR b c w' A1 c1 A2 c2 A3 c3 := by
 have hk : ∀ {A : Option Addr} {d : Nat} {l : List ByteArray}, NmR w b A d l → NmR w' b A d l := fun ho => own_fr ho hf fun k hk hm => by
  have := (ho.lt k hk).1
  have := hZ k hm
  omega
 exact ⟨hk h.o1, hk h.o2, hk h.o3, h.n12, h.n13, h.n23, h.l1, h.l2, h.l3⟩
theorem ScW.fr (h : ScW b mb stv c w) (hf : Fr Z w w') (hZ : ∀ k ∈ Z, k < b) : ScW b mb stv c w' := by
 obtain ⟨A1, c1, A2, c2, A3, c3, h1, h2⟩ := h
 exact ⟨A1, c1, A2, c2, A3, c3, h1.fr hf (fun hm => Nat.lt_irrefl _ (hZ _ hm)), h2.fr hf fun k hk => Nat.le_of_lt (hZ k hk)⟩
theorem ScW.fr0 (h : ScW b mb stv c w) (hf : Fr [] w w') : ScW b mb stv c w' := h.fr hf (by simp)
theorem ScW.lt (h : ScW b mb stv c w) : b < w.heap.size := by
 obtain ⟨A1, c1, A2, c2, A3, c3, h1, h2⟩ := h
 exact h1.lt
end
theorem NmR.rd {w : World} {b c : Nat} {A : Option Addr} {l : List ByteArray} (h : NmR w b A c l) : Rd w .string A c l := own_rd h rfl rfl
theorem Fr.belowB {B : Nat} {Z : List Nat} {w w' : World} (h : Fr Z w w') (hZ : ∀ k ∈ Z, B ≤ k) (hB : B ≤ w.heap.size) : Below B w w' :=
 ⟨h.os, h.tape, h.output, h.size, fun k hk => h.block k (Nat.lt_of_lt_of_le hk hB) fun hm => by have := hZ k hm; omega⟩
theorem MapAt.below {κ ν : Type} {w w' : World} {B m : Nat} {ek : κ → Value} {ev : ν → Value} {l : List (κ × ν)} (h : MapAt w m ek ev l) (hb : Below B w w') (hm : m < B) : MapAt w' m ek ev l := by
 obtain ⟨es, clock, h1, h2⟩ := h
 exact ⟨es, clock, by rw [hb.block m hm]; exact h1, h2⟩
end

end Go.Proofs.YtchldahkcpbgcaaGreatDoor
