/- Texts of this seat, one behind the other: LNorm1. -/
import Derived.Test.YtjpbmbonccenfaaDoort217
import Derived.Test.YtjpbmbonccenfaaDoort222
import Derived.Test.YtjpbmbonccenfaaDoort223
/- ReduceNormal: the plain facts. -/
namespace Go.Proofs.YtjpbmbonccenfaaDoor
open Go.RowKit
set_option linter.unusedVariables false

theorem normal_ok {ps : List Pk} (h : checkP 0 ps = 0) : normal ps = (joinedOf ps, 0) := by unfold normal; rw [if_pos h]
theorem normal_err {ps : List Pk} (h : checkP 0 ps ≠ 0) : normal ps = ([], checkP 0 ps) := by unfold normal; rw [if_neg h]
theorem normal_self {ps : List Pk} (h : checkP 0 ps = 0) : normal (joinedOf ps) = (joinedOf ps, 0) := by
  obtain ⟨h1, h2⟩ := joined_facts2 h
  rw [normal_ok (checkP_ok _ 0 h1 (by omega) (by omega))]
  rw [joined_rl, joined_rl, rl_self (rl_apart_ ps)]
theorem preemptions_ok {ps : List Pk} (h : checkP 0 ps = 0) : preemptions ps = (preempts (joinedOf ps), 0) := by
  unfold preemptions; rw [normal_ok h]; simp
theorem joined_steps (ps : List Pk) (t : Int) : stepsOf t (joinedOf ps) = stepsOf t ps := by rw [joined_rl, rl_steps]
theorem no_pre {ps : List Pk} (h : checkP 0 ps = 0) (h0 : (preempts (joinedOf ps)).length = 0) (x : Int) : joinAt ps x = ([], 7) := by
  have h1 : preempts (joinedOf ps) = [] := List.eq_nil_of_length_eq_zero h0
  unfold joinAt
  rw [normal_ok h, if_neg (by simp), if_pos]
  by_cases a : x < 0
  · exact .inl a
  · by_cases b : (joinedOf ps).length ≤ x
    · exact .inr (.inl b)
    · right; right
      unfold preempts at h1
      simp only [List.map_eq_nil_iff, List.filter_eq_nil_iff, List.mem_range] at h1
      have := h1 x.toNat (by omega)
      simp only [preemptAt, decide_eq_true_eq] at this
      simp only; omega
theorem mv_stepsOf {l : List Pk} {a n : Nat} (h : a < n) (hn : n < l.length) (t : Int) : stepsOf t (mvOf l a n) = stepsOf t l := by
  have := mv_steps (l := l) h t l.length (Nat.le_refl _)
  rw [if_pos hn, if_pos (show a < l.length by omega), List.take_length] at this
  unfold mvOf; omega
theorem yes_pre {ps : List Pk} (h : checkP 0 ps = 0) {x : Int} (hx : x ∈ preempts (joinedOf ps)) :
    ∃ j, joinAt ps x = (j, 0) ∧ j.length < (joinedOf ps).length ∧ Val j ∧ tot j ≤ 65536 ∧ ∀ t, stepsOf t j = stepsOf t ps := by
  unfold preempts at hx
  simp only [List.mem_map, List.mem_filter, List.mem_range] at hx
  obtain ⟨k, ⟨hk, hp⟩, rfl⟩ := hx
  simp only [preemptAt, decide_eq_true_eq] at hp
  obtain ⟨n, hn, hkn, hnl, hsame⟩ := later_range hp
  obtain ⟨hv, ht⟩ := joined_facts2 h
  refine ⟨joinedOf (mvOf (joinedOf ps) k n), ?_, ?_, ?_, ?_, ?_⟩
  · unfold joinAt
    rw [normal_ok h, if_neg (by simp), if_neg (by simp only [Int.toNat_natCast]; omega)]
    simp only [Int.toNat_natCast, hn]
  · obtain ⟨x, y, e⟩ := mv_has (l := joinedOf ps) hkn (joinedOf ps).length (by omega)
    have hl := mv_len (l := joinedOf ps) hkn (joinedOf ps).length
    rw [if_pos hnl, if_pos hk] at hl
    rw [joined_rl]
    unfold mvOf
    have := rl_less x y (p := (joinedOf ps).getD k (0, 0)) (q := (joinedOf ps).getD n (0, 0)) hsame.symm
    rw [← e] at this
    omega
  · rw [joined_rl]; exact rl_val (mv_val hv hnl _ (Nat.le_refl _))
  · rw [joined_rl, rl_tot, mv_tot hkn hnl]; exact ht
  · intro t
    rw [joined_steps, mv_stepsOf hkn hnl, joined_steps]
theorem rl_nil_iff {ps : List Pk} (h : rl ps = []) : ps = [] := by
  cases ps with
  | nil => rfl
  | cons p ps => obtain ⟨c, r, e⟩ := rl_cons p ps; rw [e] at h; cases h

theorem run_arr_eql (ps : List Pk) (h : ∀ t, 0 ≤ stepsOf t ps ∧ stepsOf t ps ≤ 65536) (w : World) : (binOp .eql 55 (.agg (stArr ps)) (.agg (stArr ps))).run Tryd.prog w = .ok (.bool true) w := by
  have hk : Tryd.prog.keyTypeAt 2 55 = true := by kernel_rfl
  have hl := keyLits_arr ps h
  have hfm : (Value.agg (stArr ps)).formed Tryd.prog 55 = true := by
    simp only [Value.formed, Tryd.underlying55]
    have : (stArr ps).size = 8 := by simp [stArr]
    have h8 : Tryd.prog.cellsOf 55 = 8 := by kernel_rfl
    simp [this, h8]
  obtain ⟨r, hr, hiff⟩ := run_equalIn_deep (P := Tryd.prog) 9998 2 55 hk w 2 2 (.agg (stArr ps)) (.agg (stArr ps)) _ _ hfm hfm hl hl
  rw [hiff.2 rfl] at hr
  rw [run_eql_struct, show (10000 : Nat) = 9998 + 2 from rfl, hr]
  rfl
end Go.Proofs.YtjpbmbonccenfaaDoor
