/- Sets as rising lists: plain facts. -/
import Derived.Test.YtjpbmbonccenfaaRNeeds
namespace Go.Proofs.Ytjpbmbonccenfaa
open Go.RowKit
set_option linter.unusedVariables false

theorem chain_iff {n : Int} : ∀ (xs : List Int) (p : Int), -1 ≤ p → (chain n p xs = true ↔ (∀ x ∈ xs, p < x ∧ x < n) ∧ xs.Pairwise (· < ·))
  | [], _, _ => by simp [chain]
  | x :: xs, p, hp => by
    simp only [chain, Bool.and_eq_true, decide_eq_true_eq, List.mem_cons, List.pairwise_cons]
    constructor
    · rintro ⟨⟨⟨h1, h2⟩, h3⟩, h4⟩
      obtain ⟨h5, h6⟩ := (chain_iff xs x (by omega)).1 h4
      exact ⟨fun y hy => by
        rcases hy with rfl | hy
        · exact ⟨h1, h3⟩
        · have := h5 y hy; omega, fun y hy => (h5 y hy).1, h6⟩
    · rintro ⟨h1, h2, h3⟩
      have hx := h1 x (.inl rfl)
      exact ⟨⟨⟨hx.1, by omega⟩, hx.2⟩, (chain_iff xs x (by omega)).2 ⟨fun y hy => ⟨h2 y hy, (h1 y (.inr hy)).2⟩, h3⟩⟩
theorem isSet_iff {n : Int} {xs : List Int} : isSet n xs = true ↔ (∀ x ∈ xs, 0 ≤ x ∧ x < n) ∧ xs.Pairwise (· < ·) := by
  unfold isSet
  rw [chain_iff xs (-1) (by omega)]
  constructor
  · rintro ⟨h1, h2⟩; exact ⟨fun x hx => by have := h1 x hx; omega, h2⟩
  · rintro ⟨h1, h2⟩; exact ⟨fun x hx => by have := h1 x hx; omega, h2⟩
theorem sorted_nodup {xs : List Int} (h : xs.Pairwise (· < ·)) : xs.Nodup := h.imp (by omega)
theorem sorted_ext : ∀ {xs ys : List Int}, xs.Pairwise (· < ·) → ys.Pairwise (· < ·) → (∀ x, x ∈ xs ↔ x ∈ ys) → xs = ys
  | [], [], _, _, _ => rfl
  | [], y :: ys, _, _, h => by have := (h y).2 (by simp); simp at this
  | x :: xs, [], _, _, h => by have := (h x).1 (by simp); simp at this
  | x :: xs, y :: ys, hx, hy, h => by
    rw [List.pairwise_cons] at hx hy
    have e : x = y := by
      have h1 := (h x).1 (by simp)
      have h2 := (h y).2 (by simp)
      rcases List.mem_cons.1 h1 with h1 | h1
      · exact h1
      · rcases List.mem_cons.1 h2 with h2 | h2
        · exact h2.symm
        · have := hx.1 y h2; have := hy.1 x h1; omega
    subst e
    rw [sorted_ext hx.2 hy.2 fun z => ?_]
    have := h z
    simp only [List.mem_cons] at this
    constructor
    · intro hz
      rcases this.1 (.inr hz) with h1 | h1
      · subst h1; have := hx.1 z hz; omega
      · exact h1
    · intro hz
      rcases this.2 (.inr hz) with h1 | h1
      · subst h1; have := hy.1 z hz; omega
      · exact h1
theorem mem_minus {xs ys : List Int} {x : Int} : x ∈ minus xs ys ↔ x ∈ xs ∧ x ∉ ys := by unfold minus; simp
theorem minus_sorted {xs : List Int} (ys : List Int) (h : xs.Pairwise (· < ·)) : (minus xs ys).Pairwise (· < ·) := h.filter _
theorem minus_set {n : Int} {xs : List Int} (ys : List Int) (h : isSet n xs = true) : isSet n (minus xs ys) = true := by
  rw [isSet_iff] at *
  exact ⟨fun x hx => h.1 x (mem_minus.1 hx).1, minus_sorted ys h.2⟩
theorem minus_nil_iff {xs ys : List Int} : minus xs ys = [] ↔ ∀ x ∈ xs, x ∈ ys := by
  unfold minus
  rw [List.filter_eq_nil_iff]
  simp
theorem nodup_sub_len : ∀ {xs ys : List Int}, xs.Nodup → (∀ x ∈ xs, x ∈ ys) → xs.length ≤ ys.length
  | [], _, _, _ => by simp
  | x :: xs, ys, hn, h => by
    rw [List.nodup_cons] at hn
    have hx := h x (by simp)
    have := nodup_sub_len (ys := ys.erase x) hn.2 fun y hy => (List.mem_erase_of_ne (fun (e : y = x) => hn.1 (e ▸ hy))).2 (h y (by simp [hy]))
    have hl := List.length_erase_of_mem hx
    have := List.length_pos_of_mem hx
    simp; omega
theorem nodup_sub_eq {xs ys : List Int} (hx : xs.Nodup) (h : ∀ x ∈ xs, x ∈ ys) (hl : ys.length ≤ xs.length) : ∀ y ∈ ys, y ∈ xs := fun y hy => by
  by_cases hm : y ∈ xs
  · exact hm
  · have := nodup_sub_len (xs := y :: xs) (ys := ys) (List.nodup_cons.2 ⟨hm, hx⟩) fun z hz => by
      rcases List.mem_cons.1 hz with rfl | hz
      · exact hy
      · exact h z hz
    simp at this; omega
theorem mem_picked {bs : List Bool} {x : Int} : x ∈ pickedOf bs ↔ inB bs x = true := by
  unfold pickedOf inB
  simp only [List.mem_map, List.mem_filter, List.mem_range, Bool.and_eq_true, decide_eq_true_eq]
  constructor
  · rintro ⟨k, ⟨h1, h2⟩, rfl⟩
    exact ⟨by omega, by simpa using h2⟩
  · rintro ⟨h1, h2⟩
    refine ⟨x.toNat, ⟨?_, h2⟩, by omega⟩
    by_cases h : x.toNat < bs.length
    · exact h
    · rw [List.getD_eq_getElem?_getD, List.getElem?_eq_none (by omega)] at h2
      cases h2
theorem picked_sorted (bs : List Bool) : (pickedOf bs).Pairwise (· < ·) := by
  unfold pickedOf
  rw [List.pairwise_map]
  refine List.Pairwise.filter _ ?_
  exact List.pairwise_lt_range.imp (by omega)
theorem inB_lt {bs : List Bool} {x : Int} (h : inB bs x = true) : 0 ≤ x ∧ x < bs.length := by
  have := mem_picked.2 h
  unfold pickedOf at this
  simp only [List.mem_map, List.mem_filter, List.mem_range] at this
  obtain ⟨k, ⟨h1, _⟩, rfl⟩ := this
  omega
theorem picked_set (bs : List Bool) : isSet bs.length (pickedOf bs) = true := by
  rw [isSet_iff]
  exact ⟨fun x hx => inB_lt (mem_picked.1 hx), picked_sorted bs⟩
theorem isClosed_iff {L : List (List Int)} {set : List Int} : isClosedB L set = true ↔ ∀ x ∈ set, ∀ y ∈ needsOf L x, y ∈ set := by
  unfold isClosedB
  rw [List.all_eq_true]
  simp only [decide_eq_true_eq, minus_nil_iff]
/-- A set is closed just if closing it adds nothing. -/
theorem closed_len {L : List (List Int)} {set : List Int} {bs : List Bool} {n : Int} (hs : isSet n set = true) (h : IsCl L set (inB bs)) : (pickedOf bs).length = set.length ↔ isClosedB L set = true := by
  rw [isSet_iff] at hs
  have hsub : ∀ x ∈ set, x ∈ pickedOf bs := fun x hx => mem_picked.2 (h.base x hx)
  rw [isClosed_iff]
  constructor
  · intro hl x hx y hy
    exact nodup_sub_eq (sorted_nodup hs.2) hsub (by omega) y (mem_picked.2 (h.step x (h.base x hx) y hy))
  · intro hc
    have hsub2 : ∀ x ∈ pickedOf bs, x ∈ set := fun x hx => by
      have := h.least (fun x => decide (x ∈ set)) (fun x hx => by simpa using hx) (fun x hx y hy => by simp at hx ⊢; exact hc x hx y hy) x (mem_picked.1 hx)
      simpa using this
    have h1 := nodup_sub_len (sorted_nodup hs.2) hsub
    have h2 := nodup_sub_len (sorted_nodup (picked_sorted bs)) hsub2
    omega
end Go.Proofs.Ytjpbmbonccenfaa
