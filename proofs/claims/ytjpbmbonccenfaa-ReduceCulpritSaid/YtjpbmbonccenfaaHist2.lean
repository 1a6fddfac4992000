/- Histories: CheckHistory. -/
import Derived.Test.YtjpbmbonccenfaaHist
namespace Go.Proofs.Ytjpbmbonccenfaa
open Go.RowKit
set_option linter.unusedVariables false

set_option maxHeartbeats 800000 in
theorem CheckHistory_any (A : Option Addr) (c : Nat) (L : List (List Int)) (w : World) (ha : Rss w A c L) :
    Calls Try.prog 34 #[.agg #[.slice A L.length c]] w (RetV w (.int .i64 (checkHist L))) := by
  have hbd := ha.bound
  by_cases h256 : 256 < L.length
  · have hr := Lib.hid (show checkHist L = 3 by simp [checkHist, h256])
    go_enter Try.func34, Try.ntmps34
    go_wp2
    go_ret
    exact ⟨ret_int hr.out.symm, (by repeat (first | exact Fr.refl _ _ | assumption | apply Fr.drewN | apply Fr.alloc | refine Fr.setCell ?_ (by simp) _))⟩
  · have hr := Lib.hid (show checkHist L = ckH 0 L by simp [checkHist, h256])
    have hle : L.length ≤ 256 := by omega
    go_enter Try.func34, Try.ntmps34
    go_wp2
    have hf0 : Fr [] w (w.alloc (.cells #[.slice A L.length c] 57)) := (by repeat (first | exact Fr.refl _ _ | assumption | apply Fr.drewN | apply Fr.alloc | refine Fr.setCell ?_ (by simp) _))
    have hb0 := Blk.new w 57 #[.slice A L.length c] _ rfl
    generalize w.alloc (.cells #[.slice A L.length c] 57) = w1 at hf0 hb0 ⊢
    go_loopw [12] (fun i wr => ∃ k : Nat, k ≤ L.length ∧ i = .int .i64 k ∧ Hid (checkHist L = ckH k (L.drop k)) ∧ Fr [] w1 wr) (fun i _ => L.length - (intOf i).toNat)
    case atStart => exact ⟨0, Nat.zero_le _, rfl, by show _ = _; rw [hr.out]; simp, Fr.refl _ _⟩
    case round =>
      clear hr
      obtain ⟨k, hk, rfl, HE, hf⟩ := hrel
      have q0 := (hb0.fr hf (by simp)).cell 0 rfl
      by_cases hlt : k < L.length
      · obtain ⟨b1, o1, l, A1, c1, rfl, hx, hc1, hr1⟩ := (ha.fr0 (hf0.trans hf)).at_ hlt
        have hst := ckH_at hx
        by_cases hs : isSet (k : Int) l = true
        · rw [if_neg (by simp [hs])] at hst
          have HF : Hid (checkHist L = ckH (k + 1) (L.drop (k + 1))) := HE.out.trans hst
          clear hst
          go_wp2_with fail
          refine (rising_any A1 c1 l k _ hr1).mono ?_
          rintro e w' ⟨rfl, n1, rfl⟩
          go_wp2
          go_roundw
          case rel => exact ⟨k + 1, by omega, by go_num, HF, hf.drewN _⟩
          case measure => simp [intOf]; omega
        · have hs' : isSet (k : Int) l = false := by simpa using hs
          rw [if_pos hs'] at hst
          have HF : Hid (checkHist L = 1) := HE.out.trans hst
          clear hst hs
          go_wp2_with fail
          refine (rising_any A1 c1 l k _ hr1).mono ?_
          rintro e w' ⟨rfl, n1, rfl⟩
          go_wp2
          go_ret
          exact ⟨ret_int HF.out.symm, hf0.trans (hf.drewN _)⟩
      · have HF : Hid (checkHist L = 0) := by
          show _ = _
          rw [HE.out, List.drop_of_length_le (by omega), ckH]
        go_wp2
        go_ret
        exact ⟨ret_int HF.out.symm, hf0.trans hf⟩

set_option maxHeartbeats 800000 in
theorem refCheckHistory_any (A : Option Addr) (c : Nat) (L : List (List Int)) (w : World) (ha : Rss w A c L) :
    Calls Try.prog 29 #[.agg #[.slice A L.length c]] w (RetV w (.int .i64 (checkHist L))) := by
  have hbd := ha.bound
  by_cases h256 : 256 < L.length
  · have hr := Lib.hid (show checkHist L = 3 by simp [checkHist, h256])
    go_enter Try.func29, Try.ntmps29
    go_wp2
    go_ret
    exact ⟨ret_int hr.out.symm, (by repeat (first | exact Fr.refl _ _ | assumption | apply Fr.drewN | apply Fr.alloc | refine Fr.setCell ?_ (by simp) _))⟩
  · have hr := Lib.hid (show checkHist L = ckH 0 L by simp [checkHist, h256])
    have hle : L.length ≤ 256 := by omega
    go_enter Try.func29, Try.ntmps29
    go_wp2
    have hf0 : Fr [] w (w.alloc (.cells #[.slice A L.length c] 57)) := (by repeat (first | exact Fr.refl _ _ | assumption | apply Fr.drewN | apply Fr.alloc | refine Fr.setCell ?_ (by simp) _))
    have hb0 := Blk.new w 57 #[.slice A L.length c] _ rfl
    generalize w.alloc (.cells #[.slice A L.length c] 57) = w1 at hf0 hb0 ⊢
    go_loopw [3] (fun i wr => ∃ k : Nat, k ≤ L.length ∧ i = .int .i64 k ∧ Hid (checkHist L = ckH k (L.drop k)) ∧ Fr [] w1 wr) (fun i _ => L.length - (intOf i).toNat)
    case atStart => exact ⟨0, Nat.zero_le _, rfl, by show _ = _; rw [hr.out]; simp, Fr.refl _ _⟩
    case round =>
      clear hr
      obtain ⟨k, hk, rfl, HE, hf⟩ := hrel
      have q0 := (hb0.fr hf (by simp)).cell 0 rfl
      by_cases hlt : k < L.length
      · obtain ⟨b1, o1, l, A1, c1, rfl, hx, hc1, hr1⟩ := (ha.fr0 (hf0.trans hf)).at_ hlt
        have hst := ckH_at hx
        by_cases hs : isSet (k : Int) l = true
        · rw [if_neg (by simp [hs])] at hst
          have HF : Hid (checkHist L = ckH (k + 1) (L.drop (k + 1))) := HE.out.trans hst
          clear hst
          go_wp2_with fail
          refine (Set_any A1 c1 l k _ hr1).mono ?_
          rintro e w' ⟨rfl, n1, rfl⟩
          go_wp2
          go_roundw
          case rel => exact ⟨k + 1, by omega, by go_num, HF, hf.drewN _⟩
          case measure => simp [intOf]; omega
        · have hs' : isSet (k : Int) l = false := by simpa using hs
          rw [if_pos hs'] at hst
          have HF : Hid (checkHist L = 1) := HE.out.trans hst
          clear hst hs
          go_wp2_with fail
          refine (Set_any A1 c1 l k _ hr1).mono ?_
          rintro e w' ⟨rfl, n1, rfl⟩
          go_wp2
          go_ret
          exact ⟨ret_int HF.out.symm, hf0.trans (hf.drewN _)⟩
      · have HF : Hid (checkHist L = 0) := by
          show _ = _
          rw [HE.out, List.drop_of_length_le (by omega), ckH]
        go_wp2
        go_ret
        exact ⟨ret_int HF.out.symm, hf0.trans hf⟩

end Go.Proofs.Ytjpbmbonccenfaa
