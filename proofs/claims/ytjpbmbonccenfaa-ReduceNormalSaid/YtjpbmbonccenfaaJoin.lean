/- Join of the program. -/
import Derived.Test.YtjpbmbonccenfaaMove
namespace Go.Proofs.Ytjpbmbonccenfaa
open Go.RowKit
set_option linter.unusedVariables false

theorem laterFrom_range {t : Int} : ∀ (ps : List Pk) (i : Int), 0 ≤ i → (laterFrom t i ps = -1 ∨ (i ≤ laterFrom t i ps ∧ laterFrom t i ps < i + ps.length ∧ ∃ p, ps[(laterFrom t i ps - i).toNat]? = some p ∧ p.1 = t))
  | [], i, _ => by simp [laterFrom]
  | p :: ps, i, h => by
    rw [laterFrom]
    split
    · rename_i e
      right
      refine ⟨by omega, by simp; omega, p, by simp, e⟩
    · rcases laterFrom_range (t := t) ps (i + 1) (by omega) with h1 | ⟨h1, h2, p', h3, h4⟩
      · exact .inl h1
      · right
        refine ⟨by omega, by simp; omega, p', ?_, h4⟩
        rw [show (laterFrom t (i + 1) ps - i).toNat = (laterFrom t (i + 1) ps - (i + 1)).toNat + 1 by omega]
        simpa using h3
theorem later_range {ps : List Pk} {k : Nat} (h : 0 ≤ laterOf ps k) : ∃ n : Nat, laterOf ps k = n ∧ k < n ∧ n < ps.length ∧ (ps.getD n (0, 0)).1 = (ps.getD k (0, 0)).1 := by
  rcases laterFrom_range (t := (ps.getD k (0, 0)).1) (ps.drop (k + 1)) (k + 1) (by omega) with h1 | ⟨h1, h2, p, h3, h4⟩
  · unfold laterOf at h; omega
  · refine ⟨(laterOf ps k).toNat, by omega, by unfold laterOf; omega, ?_, ?_⟩
    · unfold laterOf; simp only [List.length_drop] at h2; omega
    · rw [List.getElem?_drop] at h3
      rw [show k + 1 + (laterFrom (ps.getD k (0, 0)).1 (k + 1) (ps.drop (k + 1)) - (k + 1)).toNat = (laterOf ps k).toNat by unfold laterOf; omega] at h3
      rw [List.getD_eq_getElem?_getD, h3, ← h4]; rfl
theorem joined_facts2 {ps : List Pk} (h : checkP 0 ps = 0) : Val (joinedOf ps) ∧ tot (joinedOf ps) ≤ 65536 := by
  have := check_fine ps 0 h (by omega)
  rw [joined_rl]
  exact ⟨rl_val this.1, by rw [rl_tot]; omega⟩
theorem mv_fine {ps : List Pk} (hv : Val ps) (ht : tot ps ≤ 65536) {a n : Nat} (h : a < n) (hn : n < ps.length) : Fine (mvOf ps a n) :=
  ⟨fun p hp => by have := mv_val (at_ := a) hv hn ps.length (Nat.le_refl _) p hp; omega, by rw [mv_tot h hn]; omega⟩

/-- A schedule with one preemption less. -/
def joinAt (ps : List Pk) (at_ : Int) : List Pk × Int :=
  if (normal ps).2 ≠ 0 then ([], (normal ps).2)
  else if at_ < 0 ∨ (normal ps).1.length ≤ at_ ∨ laterOf (normal ps).1 at_.toNat < 0 then ([], 7)
  else (joinedOf (mvOf (normal ps).1 at_.toNat (laterOf (normal ps).1 at_.toNat).toNat), 0)

theorem RetNorm.no {w w1 : World} {r : List Pk × Int} {er : Int} (hf : Fr [] w w1) (h : r = ([], er)) : RetNorm w r (.returned (.tuple #[.slice none 0 0, .int .i64 er])) w1 := by
  subst h
  exact ⟨none, 0, rfl, hf, by simpa [flat] using World.ownsRow_nil w1 w.heap.size 43 2⟩

set_option maxRecDepth 100000 in
set_option maxHeartbeats 3200000 in
theorem Join_any (A : Option Addr) (c : Nat) (ps : List Pk) (at_ : Int) (w : World) (ha : Rp w A c ps) (hlen : ps.length ≤ 999999) :
    Calls Try.prog 20 #[.slice A ps.length c, .int .i64 at_] w (RetNorm w (joinAt ps at_)) := by
  by_cases he : (normal ps).2 = 0
  · have heb : ((normal ps).2 != 0) = false := by simp [he]
    have hck : checkP 0 ps = 0 := by
      unfold normal at he; split at he
      · assumption
      · exact absurd he (by assumption)
    have hns : (normal ps).1 = joinedOf ps := by unfold normal; rw [if_pos hck]
    have hfa := joined_facts2 hck
    have hnl := normal_len ps
    rw [← hns] at hfa
    have hj := Lib.hid (show joinAt ps at_ = if at_ < 0 ∨ (normal ps).1.length ≤ at_ ∨ laterOf (normal ps).1 at_.toNat < 0 then ([], 7)
      else (joinedOf (mvOf (normal ps).1 at_.toNat (laterOf (normal ps).1 at_.toNat).toNat), 0) by unfold joinAt; rw [if_neg (by simpa using he)])
    clear he hck hns
    have hN := Normal_any A c ps w ha (by omega)
    revert hj hfa hnl hN heb
    generalize normal ps = r
    obtain ⟨ns, er⟩ := r
    intro heb hfa hnl hj hN
    simp only at hj hfa hnl heb
    by_cases h1 : at_ < 0
    · have hj' := Lib.hid (hj.out.trans (if_pos (.inl h1)))
      clear hj
      go_enter Try.func20, Try.ntmps20
      go_wp2_with fail
      refine hN.mono ?_
      rintro e w2 ⟨A2, c2, rfl, hf2, hown2⟩
      simp only
      go_wp2
      go_ret2
      exact RetNorm.no hf2 hj'.out
    · obtain ⟨k, rfl⟩ : ∃ k : Nat, at_ = k := ⟨at_.toNat, by omega⟩
      clear h1
      have d0 : decide ((k : Int) < 0) = false := by simp
      by_cases h2 : ns.length ≤ k
      · have hj' := Lib.hid (hj.out.trans (if_pos (.inr (.inl (by omega)))))
        clear hj
        have d1 : decide (ns.length ≤ k) = true := by simpa using h2
        go_enter Try.func20, Try.ntmps20
        go_wp2_with fail
        refine hN.mono ?_
        rintro e w2 ⟨A2, c2, rfl, hf2, hown2⟩
        simp only
        go_wp2
        go_ret2
        exact RetNorm.no hf2 hj'.out
      · have d1 : decide (ns.length ≤ k) = false := by simpa using h2
        have hkl : k < ns.length := by omega
        clear h2
        by_cases h3 : laterOf ns k < 0
        · have hj' := Lib.hid (hj.out.trans (if_pos (.inr (.inr (by simpa using h3)))))
          clear hj
          go_enter Try.func20, Try.ntmps20
          go_wp2_with fail
          refine hN.mono ?_
          rintro e w2 ⟨A2, c2, rfl, hf2, hown2⟩
          simp only
          go_wp2_with fail
          refine (later_any _ _ ns k _ (Rp.of_own hown2).2 hkl).mono ?_
          rintro e w' ⟨rfl, n, rfl⟩
          go_wp2
          go_ret2
          exact RetNorm.no (hf2.drewN n) hj'.out
        · obtain ⟨nx, hnx, hkn, hnl2, _⟩ := later_range (show 0 ≤ laterOf ns k by omega)
          have hj' := hj.out
          rw [if_neg (by simp only [Int.toNat_natCast]; omega), Int.toNat_natCast, hnx, Int.toNat_natCast] at hj'
          have HJ := Lib.hid hj'
          have HX := Lib.hid hnx
          have d3 : decide (laterOf ns k < 0) = false := by simpa using h3
          have hfn := mv_fine hfa.1 hfa.2 hkn hnl2
          clear hj hj' hnx h3 hfa
          go_enter Try.func20, Try.ntmps20
          go_wp2_with fail
          refine hN.mono ?_
          rintro e w2 ⟨A2, c2, rfl, hf2, hown2⟩
          simp only
          have hr := (Rp.of_own hown2).2
          go_wp2_with fail
          refine (later_any _ _ ns k _ hr hkl).mono ?_
          rintro e w' ⟨rfl, n, rfl⟩
          go_wp2_with fail
          refine (moved_any _ _ ns k nx _ (hr.drewN _) (by omega) hkn hnl2 HX hfn).mono ?_
          rintro e w3 ⟨A3, c3, rfl, hf3, hown3⟩
          go_wp2
          go_ret2
          rw [HJ.out]
          exact ⟨A3, c3, rfl, (hf2.drewN n).trans hf3, own_base hown3 hf2.size⟩
  · have heb : ((normal ps).2 != 0) = true := by simpa using he
    have hj := Lib.hid (show joinAt ps at_ = ([], (normal ps).2) by unfold joinAt; rw [if_pos he])
    clear he
    go_enter Try.func20, Try.ntmps20
    go_wp2_with fail
    refine (Normal_any A c ps w ha (by omega)).mono ?_
    rintro e w2 ⟨A2, c2, rfl, hf2, hown2⟩
    go_wp2
    go_ret2
    exact RetNorm.no hf2 hj.out
end Go.Proofs.Ytjpbmbonccenfaa
