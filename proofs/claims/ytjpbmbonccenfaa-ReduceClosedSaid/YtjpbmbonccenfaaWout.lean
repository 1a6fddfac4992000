/- Without of the program. -/
import Derived.Test.YtjpbmbonccenfaaSets
namespace Go.Proofs.Ytjpbmbonccenfaa
open Go.RowKit
set_option linter.unusedVariables false

/-- What Without comes to. -/
def WithoutPost (w : World) (L : List (List Int)) (set : List Int) (i : Int) (e : Ending) (w' : World) : Prop :=
  (checkNeeds L ≠ 0 ∧ RetNums w ([], checkNeeds L) e w') ∨
  (checkNeeds L = 0 ∧ (isSet L.length set = false ∨ isClosedB L set = false) ∧ RetNums w ([], 1) e w') ∨
  (checkNeeds L = 0 ∧ isSet L.length set = true ∧ isClosedB L set = true ∧ i ∉ set ∧ RetNums w ([], 7) e w') ∨
  (checkNeeds L = 0 ∧ isSet L.length set = true ∧ isClosedB L set = true ∧ i ∈ set ∧ ∃ gs : List Bool, gs.length = L.length ∧ IsGn L set i (inB gs) ∧ RetNums w (minus set (pickedOf gs), 0) e w')

set_option maxRecDepth 100000 in
set_option maxHeartbeats 1600000 in
theorem Without_any (A B : Option Addr) (c d : Nat) (L : List (List Int)) (set : List Int) (i : Int) (w : World) (ha : Rss w A c L) (hb : Rd w (.int .i64) B d set) :
    Calls Try.prog 26 #[.slice A L.length c, .slice B set.length d, .int .i64 i] w (WithoutPost w L set i) := by
  have hbd := ha.bound
  by_cases hc : checkNeeds L = 0
  · obtain ⟨hn, hl⟩ := needs_facts hc
    have hcb : (checkNeeds L != 0) = false := by simp [hc]
    have hws := wt_small hc
    have HC := Lib.hid hc
    clear hc
    by_cases hs : isSet L.length set = true
    · obtain ⟨h1, h2⟩ := set_inR hs
      have HI : Hid (∀ l ∈ L, InR L.length l) := fun l h => (set_inR (hl l h)).1
      have H1 := Lib.hid h1
      have HW : Hid (set.length + wt L (List.replicate L.length false) ≤ 1000000) := by
        have := hws (List.replicate L.length false)
        show _ ≤ _
        omega
      have HS := Lib.hid hs
      clear hl h1 hws
      go_enter Try.func26, Try.ntmps26
      go_wp2_with fail
      refine (CheckNeeds_any A c L w ha).mono ?_
      rintro e w1 ⟨rfl, n1, rfl⟩
      go_wp2_with fail
      refine (rising_any B d set L.length _ (hb.drewN _)).mono ?_
      rintro e w2 ⟨rfl, n2, rfl⟩
      go_wp2_with fail
      refine (closed_any A B c d L set _ (ha.drewN _) (hb.drewN _) HI.out H1.out HW.out (by omega)).mono ?_
      rintro e w3 ⟨bs, hbs, hcl, A3, c3, rfl, hf3, hown3⟩
      have hF3 : Fr [] w w3 := ((Fr.refl _ _).drewN _).trans hf3
      have hcle := closed_len HS.out hcl
      have hb3 := hb.fr0 hF3
      clear hown3 hcl
      by_cases hle : (pickedOf bs).length = set.length
      · have hd : ((pickedOf bs).length != set.length) = false := by simp [hle]
        have hd' : (((pickedOf bs).length : Int) != (set.length : Int)) = false := by simp [hle]
        have HCL := Lib.hid (hcle.1 hle)
        clear hcle hle
        by_cases hi : i ∈ set
        · have hdi : decide (i ∈ set) = true := by simpa using hi
          have HI2 := Lib.hid hi
          have hir := H1.out i hi
          obtain ⟨k, rfl⟩ : ∃ k : Nat, i = k := ⟨i.toNat, by omega⟩
          clear hi
          go_wp2_with fail
          refine (has_any B d set k _ hb3).mono ?_
          rintro e w4 ⟨rfl, n4, rfl⟩
          go_wp2_with fail
          refine (reduced_any A B c d L set k _ ((ha.fr0 hF3).drewN _) (hb3.drewN _) HI.out H1.out (by omega) (by omega) (by omega)).mono ?_
          rintro e w5 ⟨gs, hgs, hgn, A5, c5, rfl, hf5, hown5⟩
          have hF5 := (hF3.drewN n4).trans hf5
          have hml := minus_le set (pickedOf gs)
          have HGN := Lib.hid hgn
          clear hgn
          go_wp2_with fail
          refine (fresh_any A5 c5 (minus set (pickedOf gs)) _ (Rd.of_own hown5).2 (by omega)).mono ?_
          intro e w6 h6
          obtain ⟨A6, c6, rfl, hf6, hown6⟩ := h6.n
          go_wp2
          go_ret2
          exact .inr (.inr (.inr ⟨HC.out, HS.out, HCL.out, HI2.out, gs, hgs, HGN.out, RetNums.ok (hF5.trans hf6) (own_base hown6 hF5.size) rfl⟩))
        · have hdi : decide (i ∈ set) = false := by simpa using hi
          have HI2 := Lib.hid hi
          clear hi
          go_wp2_with fail
          refine (has_any B d set i _ hb3).mono ?_
          rintro e w4 ⟨rfl, n4, rfl⟩
          go_wp2
          go_ret2
          exact .inr (.inr (.inl ⟨HC.out, HS.out, HCL.out, HI2.out, RetNums.err (hF3.drewN _) rfl⟩))
      · have hd : ((pickedOf bs).length != set.length) = true := by simp [hle]
        have hd' : (((pickedOf bs).length : Int) != (set.length : Int)) = true := by simp; omega
        have HCL : Hid (isClosedB L set = false) := by
          show _ = _
          rw [← Bool.not_eq_true]
          exact fun h => hle (hcle.2 h)
        clear hcle hle
        go_wp2
        go_ret2
        exact .inr (.inl ⟨HC.out, .inr HCL.out, RetNums.err hF3 rfl⟩)
    · have hs' : isSet L.length set = false := by simpa using hs
      have HS := Lib.hid hs'
      clear hs hws hl
      go_enter Try.func26, Try.ntmps26
      go_wp2_with fail
      refine (CheckNeeds_any A c L w ha).mono ?_
      rintro e w1 ⟨rfl, n1, rfl⟩
      go_wp2_with fail
      refine (rising_any B d set L.length _ (hb.drewN _)).mono ?_
      rintro e w2 ⟨rfl, n2, rfl⟩
      go_wp2
      go_ret2
      exact .inr (.inl ⟨HC.out, .inl HS.out, RetNums.err ((Fr.refl _ _).drewN _) rfl⟩)
  · have hcb : (checkNeeds L != 0) = true := by simpa using hc
    have HC := Lib.hid hc
    clear hc
    go_enter Try.func26, Try.ntmps26
    go_wp2_with fail
    refine (CheckNeeds_any A c L w ha).mono ?_
    rintro e w1 ⟨rfl, n1, rfl⟩
    go_wp2
    go_ret2
    exact .inl ⟨HC.out, RetNums.err ((Fr.refl _ _).drewN _) rfl⟩
end Go.Proofs.Ytjpbmbonccenfaa
