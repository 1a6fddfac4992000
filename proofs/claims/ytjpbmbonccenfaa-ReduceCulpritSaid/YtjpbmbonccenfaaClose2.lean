/- Close. -/
import Derived.Test.YtjpbmbonccenfaaClose
import Derived.Test.YtjpbmbonccenfaaPick4
namespace Go.Proofs.Ytjpbmbonccenfaa
open Go.RowKit
set_option linter.unusedVariables false

theorem chain_facts {n : Int} : ∀ {xs : List Int} {p : Int}, chain n p xs = true → -1 ≤ p → (∀ x ∈ xs, p < x ∧ 0 ≤ x ∧ x < n) ∧ (xs = [] ∨ (xs.length : Int) + p + 1 ≤ n)
  | [], _, _, _ => ⟨by simp, .inl rfl⟩
  | x :: xs, p, h, hp => by
    simp only [chain, Bool.and_eq_true, decide_eq_true_eq] at h
    have ih := chain_facts (xs := xs) (p := x) h.2 (by omega)
    refine ⟨fun y hy => ?_, .inr ?_⟩
    · rcases List.mem_cons.1 hy with rfl | hy
      · omega
      · have := ih.1 y hy; omega
    · rcases ih.2 with rfl | h2
      · simp; omega
      · simp; omega
theorem set_inR {n : Nat} {xs : List Int} (h : isSet n xs = true) : InR n xs ∧ xs.length ≤ n := by
  have := chain_facts (n := n) (xs := xs) (p := -1) h (by omega)
  refine ⟨fun x hx => by have := this.1 x hx; omega, ?_⟩
  rcases this.2 with rfl | h2
  · simp
  · omega
theorem ckN_facts {n : Int} : ∀ {L : List (List Int)} {i : Int}, ckN n i L = 0 → ∀ l ∈ L, isSet n l = true
  | [], _, _, _, hl => by cases hl
  | m :: L, i, h, l, hl => by
    rw [ckN] at h
    split at h
    · cases h
    · rename_i hm
      rcases List.mem_cons.1 hl with rfl | hl
      · cases hs : isSet n l
        · exact absurd (.inl hs) hm
        · rfl
      · exact ckN_facts h l hl
theorem needs_facts {L : List (List Int)} (h : checkNeeds L = 0) : L.length ≤ 256 ∧ ∀ l ∈ L, isSet L.length l = true := by
  unfold checkNeeds at h
  split at h
  · cases h
  · exact ⟨by omega, ckN_facts h⟩
theorem wt_le {n : Nat} : ∀ {L : List (List Int)} (bs : List Bool), (∀ l ∈ L, l.length ≤ n) → wt L bs ≤ L.length * (n + 1)
  | [], _, _ => by simp [wt]
  | l :: L, [], _ => by simp [wt]
  | l :: L, b :: bs, h => by
    have ih := wt_le (L := L) bs fun m hm => h m (by simp [hm])
    have := h l (by simp)
    simp only [wt, List.length_cons, Nat.succ_mul]
    split <;> omega
theorem wt_small {L : List (List Int)} (h : checkNeeds L = 0) (bs : List Bool) : wt L bs ≤ 70000 := by
  obtain ⟨h1, h2⟩ := needs_facts h
  have := wt_le (n := 256) bs fun l hl => Nat.le_trans (set_inR (h2 l hl)).2 h1
  have h3 : L.length * (256 + 1) ≤ 256 * 257 := Nat.mul_le_mul h1 (Nat.le_refl _)
  omega

/-- What Close comes to. -/
def ClosePost (w : World) (L : List (List Int)) (set : List Int) (e : Ending) (w' : World) : Prop :=
  (checkNeeds L ≠ 0 ∧ RetNums w ([], checkNeeds L) e w') ∨ (checkNeeds L = 0 ∧ isSet L.length set = false ∧ RetNums w ([], 1) e w') ∨
  (checkNeeds L = 0 ∧ isSet L.length set = true ∧ ∃ bs : List Bool, bs.length = L.length ∧ IsCl L set (inB bs) ∧ RetNums w (pickedOf bs, 0) e w')

set_option maxHeartbeats 1600000 in
theorem Close_any (A B : Option Addr) (c d : Nat) (L : List (List Int)) (set : List Int) (w : World) (ha : Rss w A c L) (hb : Rd w (.int .i64) B d set) :
    Calls Try.prog 23 #[.slice A L.length c, .slice B set.length d] w (ClosePost w L set) := by
  have hbd := ha.bound
  by_cases hc : checkNeeds L = 0
  · obtain ⟨hn, hl⟩ := needs_facts hc
    have hcb : (checkNeeds L != 0) = false := by simp [hc]
    have hws := wt_small hc
    have HC := Lib.hid hc
    clear hc
    by_cases hs : isSet L.length set = true
    · obtain ⟨h1, h2⟩ := set_inR hs
      have HI : Hid (∀ l ∈ L, InR L.length l) := fun l h => (set_inR (hl l h)).1
      have H1 := Lib.hid h1
      have HW : Hid (set.length + wt L (List.replicate L.length false) ≤ 1000000) := by
        have := hws (List.replicate L.length false)
        show _ ≤ _
        omega
      have HS := Lib.hid hs
      clear hl h1 hws
      go_enter Try.func23, Try.ntmps23
      go_wp2_with fail
      refine (CheckNeeds_any A c L w ha).mono ?_
      rintro e w1 ⟨rfl, n1, rfl⟩
      go_wp2_with fail
      refine (rising_any B d set L.length _ (hb.drewN _)).mono ?_
      rintro e w2 ⟨rfl, n2, rfl⟩
      go_wp2_with fail
      refine (closed_any A B c d L set _ (ha.drewN _) (hb.drewN _) HI.out H1.out HW.out (by omega)).mono ?_
      rintro e w3 ⟨bs, hbs, hcl, A3, c3, rfl, hf3, hown3⟩
      have HCL := Lib.hid hcl
      clear hcl
      go_wp2
      go_ret2
      exact .inr (.inr ⟨HC.out, HS.out, bs, hbs, HCL.out, RetNums.ok (zs := pickedOf bs) (((Fr.refl _ _).drewN _).trans hf3) (own_base hown3 (Nat.le_refl _)) rfl⟩)
    · have hs' : isSet L.length set = false := by simpa using hs
      have HS := Lib.hid hs'
      clear hs hws hl
      go_enter Try.func23, Try.ntmps23
      go_wp2_with fail
      refine (CheckNeeds_any A c L w ha).mono ?_
      rintro e w1 ⟨rfl, n1, rfl⟩
      go_wp2_with fail
      refine (rising_any B d set L.length _ (hb.drewN _)).mono ?_
      rintro e w2 ⟨rfl, n2, rfl⟩
      go_wp2
      go_ret2
      exact .inr (.inl ⟨HC.out, HS.out, RetNums.err ((Fr.refl _ _).drewN _) rfl⟩)
  · have hcb : (checkNeeds L != 0) = true := by simpa using hc
    have HC := Lib.hid hc
    clear hc
    go_enter Try.func23, Try.ntmps23
    go_wp2_with fail
    refine (CheckNeeds_any A c L w ha).mono ?_
    rintro e w1 ⟨rfl, n1, rfl⟩
    go_wp2
    go_ret2
    exact .inl ⟨HC.out, RetNums.err ((Fr.refl _ _).drewN _) rfl⟩
end Go.Proofs.Ytjpbmbonccenfaa
