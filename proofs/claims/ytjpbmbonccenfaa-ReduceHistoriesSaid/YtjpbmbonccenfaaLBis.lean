/- ReduceBisects: the walk. -/
import Derived.Test.YtjpbmbonccenfaaRuns
namespace Go.Proofs.Ytjpbmbonccenfaa
open Go.RowKit
set_option linter.unusedVariables false

theorem QstIs.lit {w : World} {v : Value} {q : Qst} (h : QstIs w v q) : ∃ A a B b C c, v = .agg #[.bool q.done, .slice A q.ask.length a, .slice B q.kept.length b, .slice C q.pass.length c] ∧ Rd w (.int .i64) A a q.ask ∧ Rd w (.int .i64) B b q.kept ∧ Rd w (.int .i64) C c q.pass := h

set_option maxHeartbeats 1600000 in
theorem LBis_any (n times : Int) (A : Option Addr) (c : Nat) (ans : List Int) (w : World) (ha : Rd w (.int .u8) A c ans) :
    Calls Try.prog 3 #[.int .i64 n, .int .i64 times, .slice A ans.length c] w (RetV w (.bool true)) := by
  have hbd := ha.bound
  by_cases h2 : 200 < ans.length
  · go_enter Try.func3, Try.ntmps3
    go_wp2_with fail
    refine (runs_any _).mono ?_
    rintro e w1 ⟨rfl, hf1⟩
    go_wp2
    go_ret
    exact ⟨rfl, hf1⟩
  · go_enter Try.func3, Try.ntmps3
    go_wp2_with fail
    obtain ⟨⟨q, er⟩, hq⟩ : ∃ r, r = bisect n times ans := ⟨_, rfl⟩
    have HQ := Lib.hid hq
    clear hq
    refine (bisect_any n times A c ans w ha).mono ?_
    rw [← HQ.out]
    rintro e w1 ⟨v1, rfl, hf1, A1, a1, B1, b1, C1, c1, rfl, ⟨hq1, _⟩, ⟨hq2, _⟩, hq3, _⟩
    go_wp2_with fail
    have hQ1 := Blk.new w1 26 #[.bool q.done, .slice A1 q.ask.length a1, .slice B1 q.kept.length b1, .slice C1 q.pass.length c1] _ rfl
    refine (refBisect_any n times A c ans _ (ha.fr0 (hf1.alloc _))).mono ?_
    rw [← HQ.out]
    rintro e w2 ⟨v2, rfl, hf2, A2, a2, B2, b2, C2, c2, rfl, hr1, hr2, hr3⟩
    have hF2 : Fr [] w1 w2 := Fr.trans ((Fr.refl _ _).alloc _) hf2
    have hQ2 := hQ1.fr hf2 (by simp)
    have hQ3 := hQ2.alloc (.cells #[.bool q.done, .slice A2 q.ask.length a2, .slice B2 q.kept.length b2, .slice C2 q.pass.length c2] 26)
    clear hQ1 hQ2
    have qc0 := hQ3.cell 0 rfl
    have qc1 := hQ3.cell 1 rfl
    have qc2 := hQ3.cell 2 rfl
    have qc3 := hQ3.cell 3 rfl
    have qd0 := hQ3.frozen 0
    have qd1 := hQ3.frozen 1
    have qd2 := hQ3.frozen 2
    have qd3 := hQ3.frozen 3
    go_wp2_with fail
    refine (SameQuest_any q q A1 B1 C1 A2 B2 C2 a1 b1 c1 a2 b2 c2 _ (hq1.fr0 (hF2.alloc _)) (hq2.fr0 (hF2.alloc _)) (hq3.fr0 (hF2.alloc _)) (hr1.alloc _) (hr2.alloc _) (hr3.alloc _)).mono ?_
    rintro e w3 ⟨rfl, hf3⟩
    go_wp2_with fail
    refine (runs_any _).mono ?_
    rintro e w4 ⟨rfl, hf4⟩
    go_wp2
    go_ret
    exact ⟨by simp, (hf1.trans ((hF2.alloc _).trans hf3)).trans hf4⟩
end Go.Proofs.Ytjpbmbonccenfaa
