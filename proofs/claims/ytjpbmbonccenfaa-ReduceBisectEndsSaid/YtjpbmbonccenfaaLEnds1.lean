/- reply, judged: what a version answers. -/
import Derived.Test.YtjpbmbonccenfaaEnds
import Derived.Test.YtjpbmbonccenfaaRuns
namespace Go.Proofs.Ytjpbmbonccenfaa
open Go.RowKit
set_option linter.unusedVariables false

theorem rep_cases (m : Nat) (hm : m < 4) (j : Nat) : (m = 0 ∧ rep m j = 1) ∨ (m = 1 ∧ rep m j = 2) ∨ (m = 2 ∧ rep m j = 3) ∨ (m = 3 ∧ 0 < j ∧ rep m j = 2) ∨ (m = 3 ∧ j = 0 ∧ rep m j = 1) := by
  unfold rep
  match m, hm with
  | 0, _ => simp
  | 1, _ => simp
  | 2, _ => simp
  | 3, _ => by_cases h : 0 < j <;> simp [h]; omega

theorem reply_any (k : Nat) (j : Nat) (w : World) (hk : k ≤ 255) (hj : j ≤ 1000) :
    Calls Try.prog 14 #[.int .u8 k, .int .i64 j] w (fun e w' => e = .returned (.int .u8 (rep (k % 4) j)) ∧ w' = w) := by
  have hc := rep_cases (k % 4) (Nat.mod_lt _ (by omega)) j
  have h0 : (0 : Int) ≤ k := by omega
  rcases hc with ⟨hm, hr⟩ | ⟨hm, hr⟩ | ⟨hm, hr⟩ | ⟨hm, hj0, hr⟩ | ⟨hm, hj0, hr⟩
  · have d0 : ((k : Int) % 4 == 0) = true := by simp; omega
    have HR := Lib.hid hr
    clear hr hm
    go_enter Try.func14, Try.ntmps14
    go_wp2
    go_ret
    exact ⟨ret_int HR.out.symm, rfl⟩
  · have d0 : ((k : Int) % 4 == 0) = false := by simp; omega
    have d1 : ((k : Int) % 4 == 1) = true := by simp; omega
    have HR := Lib.hid hr
    clear hr hm
    go_enter Try.func14, Try.ntmps14
    go_wp2
    go_ret
    exact ⟨ret_int HR.out.symm, rfl⟩
  · have d0 : ((k : Int) % 4 == 0) = false := by simp; omega
    have d1 : ((k : Int) % 4 == 1) = false := by simp; omega
    have d2 : ((k : Int) % 4 == 2) = true := by simp; omega
    have HR := Lib.hid hr
    clear hr hm
    go_enter Try.func14, Try.ntmps14
    go_wp2
    go_ret
    exact ⟨ret_int HR.out.symm, rfl⟩
  · have d0 : ((k : Int) % 4 == 0) = false := by simp; omega
    have d1 : ((k : Int) % 4 == 1) = false := by simp; omega
    have d2 : ((k : Int) % 4 == 2) = false := by simp; omega
    have d3 : decide (0 < (j : Int)) = true := by simp; omega
    have HR := Lib.hid hr
    clear hr hm
    go_enter Try.func14, Try.ntmps14
    go_wp2
    go_ret
    exact ⟨ret_int HR.out.symm, rfl⟩
  · have d0 : ((k : Int) % 4 == 0) = false := by simp; omega
    have d1 : ((k : Int) % 4 == 1) = false := by simp; omega
    have d2 : ((k : Int) % 4 == 2) = false := by simp; omega
    have HR := Lib.hid hr
    clear hr hm
    subst hj0
    go_enter Try.func14, Try.ntmps14
    go_wp2
    go_ret
    exact ⟨ret_int HR.out.symm, rfl⟩

theorem jud_cases (m : Nat) (hm : m < 4) (T : Nat) : (m = 3 ∧ 1 < T ∧ jud m T = 2) ∨ (m = 3 ∧ ¬ 1 < T ∧ jud m T = rep m 0) ∨ (m ≠ 3 ∧ jud m T = rep m 0) := by
  unfold jud rep
  match m, hm with
  | 0, _ => simp
  | 1, _ => simp
  | 2, _ => simp
  | 3, _ => by_cases h : 1 < T <;> simp [h]
theorem judged_any (k : Nat) (T : Nat) (w : World) (hk : k ≤ 255) (hT : T ≤ 9) :
    Calls Try.prog 13 #[.int .u8 k, .int .i64 T] w (fun e w' => e = .returned (.int .u8 (jud (k % 4) T)) ∧ w' = w) := by
  have hc := jud_cases (k % 4) (Nat.mod_lt _ (by omega)) T
  have h0 : (0 : Int) ≤ k := by omega
  rcases hc with ⟨hm, hT1, hr⟩ | ⟨hm, hT1, hr⟩ | ⟨hm, hr⟩
  · have d3 : ((k : Int) % 4 == 3) = true := by simp; omega
    have d4 : decide (1 < (T : Int)) = true := by simp; omega
    have HR := Lib.hid hr
    clear hr hm
    go_enter Try.func13, Try.ntmps13
    go_wp2_with fail
    refine (reply_any k 0 w hk (by omega)).mono ?_
    rintro e w' ⟨rfl, rfl⟩
    go_wp2
    go_ret
    exact ⟨ret_int HR.out.symm, rfl⟩
  · have d3 : ((k : Int) % 4 == 3) = true := by simp; omega
    have d4 : decide (1 < (T : Int)) = false := by simp; omega
    have HR := Lib.hid hr
    clear hr hm
    go_enter Try.func13, Try.ntmps13
    go_wp2_with fail
    refine (reply_any k 0 w hk (by omega)).mono ?_
    rintro e w' ⟨rfl, rfl⟩
    go_wp2
    go_ret
    exact ⟨ret_int HR.out.symm, rfl⟩
  · have d3 : ((k : Int) % 4 == 3) = false := by simp; omega
    have HR := Lib.hid hr
    clear hr hm
    go_enter Try.func13, Try.ntmps13
    go_wp2_with fail
    refine (reply_any k 0 w hk (by omega)).mono ?_
    rintro e w' ⟨rfl, rfl⟩
    go_wp2
    go_ret
    exact ⟨ret_int HR.out.symm, rfl⟩
end Go.Proofs.Ytjpbmbonccenfaa
