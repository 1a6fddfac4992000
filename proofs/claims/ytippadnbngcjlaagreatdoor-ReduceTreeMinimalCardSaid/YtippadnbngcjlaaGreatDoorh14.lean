/- Texts of this seat, one behind the other: Pick, Needs. -/
import Derived.Test.YtippadnbngcjlaaGreatDoorh13
import Derived.WalkSmall
import Derived.Deep.LoopGhost
namespace Go.Proofs.YtippadnbngcjlaaGreatDoor
set_option linter.unusedVariables false

/- Slices of picks: two cells an element. -/
section
open Go.RowKit
abbrev Pk := Int × Int
def flat (ps : List Pk) : List Value := ps.flatMap fun p => [.int .i64 p.1, .int .i64 p.2]
theorem flat_length (ps : List Pk) : (flat ps).length = ps.length * 2 := by
 induction ps with
 | nil => rfl
 | cons p ps ih => simp only [flat, List.flatMap_cons, List.length_append, List.length_cons, List.length_nil] at ih ⊢; rw [ih]; omega
theorem flat_at0 : ∀ (ps : List Pk) (k : Nat), (flat ps)[k * 2]? = ps[k]?.map fun p => .int .i64 p.1
  | [], k => by simp [flat]
  | p :: ps, 0 => by simp [flat]
  | p :: ps, k + 1 => by
    have := flat_at0 ps k
    rw [show (k + 1) * 2 = k * 2 + 2 by omega]
    simpa [flat] using this
theorem flat_at1 : ∀ (ps : List Pk) (k : Nat), (flat ps)[k * 2 + 1]? = ps[k]?.map fun p => .int .i64 p.2
  | [], k => by simp [flat]
  | p :: ps, 0 => by simp [flat]
  | p :: ps, k + 1 => by
    have := flat_at1 ps k
    rw [show (k + 1) * 2 + 1 = k * 2 + 1 + 2 by omega]
    simpa [flat] using this
structure Rp (w : World) (A : Option Addr) (c : Nat) (ps : List Pk) : Prop where
 le : ps.length ≤ c
 cap : c ≤ maxLen
 at0 : 0 < ps.length → ∃ b off, A = some ⟨b, off, none⟩ ∧ ∀ k p, ps[k]? = some p → w.cell? ⟨b, off + k * 2, none⟩ = some (.int .i64 p.1) ∧ w.cell? ⟨b, off + k * 2 + 1, none⟩ = some (.int .i64 p.2)
section
variable {w w' : World} {A : Option Addr} {c : Nat} {ps : List Pk} {S : List Nat}
theorem Rp.at_ (h : Rp w A c ps) {k : Nat} (hk : k < ps.length) : ∃ b off x y, A = some ⟨b, off, none⟩ ∧ Hid (ps[k]? = some (x, y)) ∧ w.cell? ⟨b, off + k * 2, none⟩ = some (.int .i64 x) ∧ w.cell? ⟨b, off + k * 2 + 1, none⟩ = some (.int .i64 y) := by
 obtain ⟨b, off, hA, hc⟩ := h.at0 (by omega)
 have := hc k ps[k] (List.getElem?_eq_getElem hk)
 exact ⟨b, off, ps[k].1, ps[k].2, hA, List.getElem?_eq_getElem hk, this.1, this.2⟩
theorem Rp.bound (h : Rp w A c ps) : ps.length ≤ 9223372036854775807 := by
 have h1 := h.le
 have h2 := h.cap
 unfold maxLen at h2
 omega
theorem Rp.nil_ (w : World) : Rp w none 0 [] := ⟨Nat.le_refl _, by unfold maxLen; omega, fun h => by simp at h⟩
theorem Rp.fr (h : Rp w A c ps) (hf : Fr S w w') (hn : 0 < ps.length → ∀ a, A = some a → a.block ∉ S) : Rp w' A c ps :=
 ⟨h.le, h.cap, fun h0 => by
  obtain ⟨b, off, hA, hc⟩ := h.at0 h0
  exact ⟨b, off, hA, fun k p hp => ⟨hf.cell (hc k p hp).1 (hn h0 ⟨b, off, none⟩ hA), hf.cell (hc k p hp).2 (hn h0 ⟨b, off, none⟩ hA)⟩⟩⟩
theorem Rp.fr0 (h : Rp w A c ps) (hf : Fr [] w w') : Rp w' A c ps := h.fr hf (by simp)
theorem Rp.alloc (h : Rp w A c ps) (o : Obj) : Rp (w.alloc o) A c ps := h.fr0 ((Fr.refl _ _).alloc o)
theorem Rp.drewN (h : Rp w A c ps) (n : Nat) : Rp (w.drewN n) A c ps := ⟨h.le, h.cap, h.at0⟩
theorem Rp.of_own {base n : Nat} {e : TypeId} (h : w.ownsRow base e 2 (.slice A n c) n (flat ps)) : n = ps.length ∧ Rp w A c ps := by
 have hl : n = ps.length := by have := h.1; rw [flat_length] at this; omega
 subst hl
 refine ⟨rfl, ?_⟩
 rcases h.2 with ⟨he, h0⟩ | ⟨g, cap, cur, he, hb, hh, hnc, hcm, hsz, htk⟩
 ·injection he with e1 e2 e3
  subst e1 e3
  exact ⟨by omega, by unfold maxLen; omega, fun h1 => by omega⟩
 ·injection he with e1 e2 e3
  subst e1 e3
  exact ⟨hnc, hcm, fun _ => ⟨g, 0, rfl, fun k p hp => by
   have hk : k < ps.length := (List.getElem?_eq_some_iff.1 hp).1
   have a0 := h.cellAt (k * 2) (by omega)
   have a1 := h.cellAt (k * 2 + 1) (by omega)
   rw [flat_at0, hp] at a0
   rw [flat_at1, hp] at a1
   rw [Nat.zero_add]
   exact ⟨a0, a1⟩⟩⟩
end
end

/- Slices of slices of numbers; CheckNeeds. -/
section
open Go.RowKit
structure Rss (w : World) (A : Option Addr) (c : Nat) (L : List (List Int)) : Prop where
 le : L.length ≤ c
 cap : c ≤ maxLen
 at0 : 0 < L.length → ∃ b off, A = some ⟨b, off, none⟩ ∧ ∀ k l, L[k]? = some l → ∃ A' c', w.cell? ⟨b, off + k, none⟩ = some (.slice A' l.length c') ∧ Rd w (.int .i64) A' c' l
section
variable {w w' : World} {A : Option Addr} {c : Nat} {L : List (List Int)} {S : List Nat}
theorem Rss.at_ (h : Rss w A c L) {k : Nat} (hk : k < L.length) : ∃ b off l A' c', A = some ⟨b, off, none⟩ ∧ Hid (L[k]? = some l) ∧ w.cell? ⟨b, off + k, none⟩ = some (.slice A' l.length c') ∧ Rd w (.int .i64) A' c' l := by
 obtain ⟨b, off, hA, hc⟩ := h.at0 (by omega)
 obtain ⟨A', c', h1, h2⟩ := hc k L[k] (List.getElem?_eq_getElem hk)
 exact ⟨b, off, L[k], A', c', hA, List.getElem?_eq_getElem hk, h1, h2⟩
theorem Rss.bound (h : Rss w A c L) : L.length ≤ 9223372036854775807 := by
 have h1 := h.le
 have h2 := h.cap
 unfold maxLen at h2
 omega
theorem Rss.fr0 (h : Rss w A c L) (hf : Fr [] w w') : Rss w' A c L :=
 ⟨h.le, h.cap, fun h0 => by
  obtain ⟨b, off, hA, hc⟩ := h.at0 h0
  refine ⟨b, off, hA, fun k l hl => ?_⟩
  obtain ⟨A', c', h1, h2⟩ := hc k l hl
  exact ⟨A', c', hf.cell h1 (by simp), h2.fr0 hf⟩⟩
theorem Rss.drewN (h : Rss w A c L) (n : Nat) : Rss (w.drewN n) A c L := h.fr0 ((Fr.refl _ _).drewN n)
end
def ckN (n : Int) : Int → List (List Int) → Int
 | _, [] => 0
 | i, l :: ls => if isSet n l = false ∨ i ∈ l then 1 else ckN n (i + 1) ls
def checkNeeds (L : List (List Int)) : Int := if 256 < L.length then 3 else ckN L.length 0 L
def pickedOf (bs : List Bool) : List Int := ((List.range bs.length).filter fun k => bs.getD k false).map fun (k : Nat) => (k : Int)
end

end Go.Proofs.YtippadnbngcjlaaGreatDoor
