/- Texts of this seat, one behind the other: Pick, Needs. -/
import Derived.Test.YtippadnbngcjlaaDoorg33
import Derived.WalkSmall
import Derived.Deep.LoopGhost
/- Slices of picks: two cells an element. -/
namespace Go.Proofs.YtippadnbngcjlaaDoor
open Go.RowKit
set_option linter.unusedVariables false

/-- A pick: a thread, a count. -/
abbrev Pk := Int × Int
/-- The cells of picks. -/
def flat (ps : List Pk) : List Value := ps.flatMap fun p => [.int .i64 p.1, .int .i64 p.2]
theorem flat_length (ps : List Pk) : (flat ps).length = ps.length * 2 := by
  induction ps with
  | nil => rfl
  | cons p ps ih => simp only [flat, List.flatMap_cons, List.length_append, List.length_cons, List.length_nil] at ih ⊢; rw [ih]; omega
theorem flat_snoc (ps : List Pk) (p : Pk) : flat (ps ++ [p]) = flat ps ++ [.int .i64 p.1, .int .i64 p.2] := by simp [flat]
theorem flat_at0 : ∀ (ps : List Pk) (k : Nat), (flat ps)[k * 2]? = ps[k]?.map fun p => .int .i64 p.1
  | [], k => by simp [flat]
  | p :: ps, 0 => by simp [flat]
  | p :: ps, k + 1 => by
    have := flat_at0 ps k
    rw [show (k + 1) * 2 = k * 2 + 2 by omega]
    simpa [flat] using this
theorem flat_at1 : ∀ (ps : List Pk) (k : Nat), (flat ps)[k * 2 + 1]? = ps[k]?.map fun p => .int .i64 p.2
  | [], k => by simp [flat]
  | p :: ps, 0 => by simp [flat]
  | p :: ps, k + 1 => by
    have := flat_at1 ps k
    rw [show (k + 1) * 2 + 1 = k * 2 + 1 + 2 by omega]
    simpa [flat] using this
theorem flat_set : ∀ (ps : List Pk) (k : Nat) (q : Pk) (v : Int), ps[k]? = some q → (flat ps).set (k * 2 + 1) (.int .i64 v) = flat (ps.set k (q.1, v))
  | [], k, q, v, h => by simp at h
  | p :: ps, 0, q, v, h => by simp at h; subst h; simp [flat]
  | p :: ps, k + 1, q, v, h => by
    have := flat_set ps k q v (by simpa using h)
    rw [show (k + 1) * 2 + 1 = k * 2 + 1 + 2 by omega]
    simpa [flat] using this

/-- A slice that reads as picks. -/
structure Rp (w : World) (A : Option Addr) (c : Nat) (ps : List Pk) : Prop where
  le : ps.length ≤ c
  cap : c ≤ maxLen
  at0 : 0 < ps.length → ∃ b off, A = some ⟨b, off, none⟩ ∧ ∀ k p, ps[k]? = some p → w.cell? ⟨b, off + k * 2, none⟩ = some (.int .i64 p.1) ∧ w.cell? ⟨b, off + k * 2 + 1, none⟩ = some (.int .i64 p.2)

section
variable {w w' : World} {A : Option Addr} {c : Nat} {ps : List Pk} {S : List Nat}
theorem Rp.at_ (h : Rp w A c ps) {k : Nat} (hk : k < ps.length) : ∃ b off x y, A = some ⟨b, off, none⟩ ∧ Hid (ps[k]? = some (x, y)) ∧ w.cell? ⟨b, off + k * 2, none⟩ = some (.int .i64 x) ∧ w.cell? ⟨b, off + k * 2 + 1, none⟩ = some (.int .i64 y) := by
  obtain ⟨b, off, hA, hc⟩ := h.at0 (by omega)
  have := hc k ps[k] (List.getElem?_eq_getElem hk)
  exact ⟨b, off, ps[k].1, ps[k].2, hA, List.getElem?_eq_getElem hk, this.1, this.2⟩
theorem Rp.bound (h : Rp w A c ps) : ps.length ≤ 9223372036854775807 := by
  have h1 := h.le
  have h2 := h.cap
  unfold maxLen at h2
  omega
theorem Rp.nil_ (w : World) : Rp w none 0 [] := ⟨Nat.le_refl _, by unfold maxLen; omega, fun h => by simp at h⟩
theorem Rp.fr (h : Rp w A c ps) (hf : Fr S w w') (hn : 0 < ps.length → ∀ a, A = some a → a.block ∉ S) : Rp w' A c ps :=
  ⟨h.le, h.cap, fun h0 => by
    obtain ⟨b, off, hA, hc⟩ := h.at0 h0
    exact ⟨b, off, hA, fun k p hp => ⟨hf.cell (hc k p hp).1 (hn h0 ⟨b, off, none⟩ hA), hf.cell (hc k p hp).2 (hn h0 ⟨b, off, none⟩ hA)⟩⟩⟩
theorem Rp.fr0 (h : Rp w A c ps) (hf : Fr [] w w') : Rp w' A c ps := h.fr hf (by simp)
theorem Rp.alloc (h : Rp w A c ps) (o : Obj) : Rp (w.alloc o) A c ps := h.fr0 ((Fr.refl _ _).alloc o)
theorem Rp.drewN (h : Rp w A c ps) (n : Nat) : Rp (w.drewN n) A c ps := ⟨h.le, h.cap, h.at0⟩
theorem Rp.of_own {base n : Nat} {e : TypeId} (h : w.ownsRow base e 2 (.slice A n c) n (flat ps)) : n = ps.length ∧ Rp w A c ps := by
  have hl : n = ps.length := by have := h.1; rw [flat_length] at this; omega
  subst hl
  refine ⟨rfl, ?_⟩
  rcases h.2 with ⟨he, h0⟩ | ⟨g, cap, cur, he, hb, hh, hnc, hcm, hsz, htk⟩
  · injection he with e1 e2 e3
    subst e1 e3
    exact ⟨by omega, by unfold maxLen; omega, fun h1 => by omega⟩
  · injection he with e1 e2 e3
    subst e1 e3
    exact ⟨hnc, hcm, fun _ => ⟨g, 0, rfl, fun k p hp => by
      have hk : k < ps.length := (List.getElem?_eq_some_iff.1 hp).1
      have a0 := h.cellAt (k * 2) (by omega)
      have a1 := h.cellAt (k * 2 + 1) (by omega)
      rw [flat_at0, hp] at a0
      rw [flat_at1, hp] at a1
      rw [Nat.zero_add]
      exact ⟨a0, a1⟩⟩⟩
end

end Go.Proofs.YtippadnbngcjlaaDoor

/- Slices of slices of numbers; CheckNeeds. -/
namespace Go.Proofs.YtippadnbngcjlaaDoor
open Go.RowKit
set_option linter.unusedVariables false

/-- A slice that reads as a list of lists of numbers. -/
structure Rss (w : World) (A : Option Addr) (c : Nat) (L : List (List Int)) : Prop where
  le : L.length ≤ c
  cap : c ≤ maxLen
  at0 : 0 < L.length → ∃ b off, A = some ⟨b, off, none⟩ ∧ ∀ k l, L[k]? = some l → ∃ A' c', w.cell? ⟨b, off + k, none⟩ = some (.slice A' l.length c') ∧ Rd w (.int .i64) A' c' l
section
variable {w w' : World} {A : Option Addr} {c : Nat} {L : List (List Int)} {S : List Nat}
theorem Rss.at_ (h : Rss w A c L) {k : Nat} (hk : k < L.length) : ∃ b off l A' c', A = some ⟨b, off, none⟩ ∧ Hid (L[k]? = some l) ∧ w.cell? ⟨b, off + k, none⟩ = some (.slice A' l.length c') ∧ Rd w (.int .i64) A' c' l := by
  obtain ⟨b, off, hA, hc⟩ := h.at0 (by omega)
  obtain ⟨A', c', h1, h2⟩ := hc k L[k] (List.getElem?_eq_getElem hk)
  exact ⟨b, off, L[k], A', c', hA, List.getElem?_eq_getElem hk, h1, h2⟩
theorem Rss.bound (h : Rss w A c L) : L.length ≤ 9223372036854775807 := by
  have h1 := h.le
  have h2 := h.cap
  unfold maxLen at h2
  omega
theorem Rss.fr0 (h : Rss w A c L) (hf : Fr [] w w') : Rss w' A c L :=
  ⟨h.le, h.cap, fun h0 => by
    obtain ⟨b, off, hA, hc⟩ := h.at0 h0
    refine ⟨b, off, hA, fun k l hl => ?_⟩
    obtain ⟨A', c', h1, h2⟩ := hc k l hl
    exact ⟨A', c', hf.cell h1 (by simp), h2.fr0 hf⟩⟩
theorem Rss.drewN (h : Rss w A c L) (n : Nat) : Rss (w.drewN n) A c L := h.fr0 ((Fr.refl _ _).drewN n)
end

/-- The first error of needs, from change i on; n: how many changes there are. -/
def ckN (n : Int) : Int → List (List Int) → Int
  | _, [] => 0
  | i, l :: ls => if isSet n l = false ∨ i ∈ l then 1 else ckN n (i + 1) ls
/-- CheckNeeds. -/
def checkNeeds (L : List (List Int)) : Int := if 256 < L.length then 3 else ckN L.length 0 L
theorem ckN_at {n : Int} {L : List (List Int)} {k : Nat} {l : List Int} (h : Hid (L[k]? = some l)) (i : Int) : ckN n i (L.drop k) = if isSet n l = false ∨ i ∈ l then 1 else ckN n (i + 1) (L.drop (k + 1)) := by
  have hk : k < L.length := (List.getElem?_eq_some_iff.1 h.out).1
  have he : L[k] = l := (List.getElem?_eq_some_iff.1 h.out).2
  rw [List.drop_eq_getElem_cons hk, he, ckN]

/-- The numbers that are set. -/
def pickedOf (bs : List Bool) : List Int := ((List.range bs.length).filter fun k => bs.getD k false).map fun (k : Nat) => (k : Int)
def pickUpto (bs : List Bool) (k : Nat) : List Int := ((List.range k).filter fun k => bs.getD k false).map fun (k : Nat) => (k : Int)
theorem pick_yes {bs : List Bool} {k : Nat} (h : Hid (bs[k]? = some true)) : pickUpto bs (k + 1) = pickUpto bs k ++ [(k : Int)] := by
  simp [pickUpto, List.range_succ, List.filter_append, h.out]
theorem pick_no {bs : List Bool} {k : Nat} (h : Hid (bs[k]? = some false)) : pickUpto bs (k + 1) = pickUpto bs k := by
  simp [pickUpto, List.range_succ, List.filter_append, h.out]
theorem pick_le (bs : List Bool) (k : Nat) : (pickUpto bs k).length ≤ k := by
  unfold pickUpto
  rw [List.length_map]
  exact Nat.le_trans (List.length_filter_le _ _) (by simp)

end Go.Proofs.YtippadnbngcjlaaDoor
