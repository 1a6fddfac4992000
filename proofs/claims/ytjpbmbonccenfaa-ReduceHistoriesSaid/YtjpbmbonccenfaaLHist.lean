/- ReduceHistories: the walk. -/
import Derived.Test.YtjpbmbonccenfaaRCul
import Derived.Test.YtjpbmbonccenfaaRuns
import Derived.Test.YtjpbmbonccenfaaLBis
namespace Go.Proofs.Ytjpbmbonccenfaa
open Go.RowKit
set_option linter.unusedVariables false

set_option maxRecDepth 100000 in
set_option maxHeartbeats 6400000 in
theorem LHist_any (A B C D : Option Addr) (c b s f : Nat) (P : List (List Int)) (v : Int) (cand skip : List Int) (bad times : Int) (ans : List Int) (w : World) (ha : Rss w A c P) (hb : Rd w (.int .i64) B b cand) (hc : Rd w (.int .i64) C s skip) (hd : Rd w (.int .u8) D f ans) :
    Calls Try.prog 8 #[.agg #[.slice A P.length c], .int .i64 v, .slice B cand.length b, .slice C skip.length s, .int .i64 bad, .int .i64 times, .slice D ans.length f] w (RetV w (.bool true)) := by
  have hbb := hb.bound
  have hcb := hc.bound
  have hdb := hd.bound
  obtain ⟨W, hW⟩ : ∃ W, W = (w.alloc (.cells #[.slice A P.length c] 57)) := ⟨_, rfl⟩
  have hfW : Fr [] w W := by rw [hW]; exact (by repeat (first | exact Fr.refl _ _ | assumption | apply Fr.drewN | apply Fr.drew | apply Fr.alloc | refine Fr.setCell ?_ (by simp) _))
  have hbH : Blk W w.heap.size 57 #[.slice A P.length c] := by rw [hW]; exact Blk.new w _ _ _ rfl
  have HW := Lib.hid hW.symm
  clear hW
  go_enter Try.func8, Try.ntmps8
  go_wp2_with fail
  rw [HW.out]
  refine (wide_any A c P W (ha.fr0 hfW)).mono ?_
  rintro e w1 ⟨wd, rfl, hf1, _⟩
  have hF1 := hfW.trans hf1
  have hH1 := hbH.fr hf1 (by simp)
  have q1 := hH1.cell 0 rfl
  clear hfW hf1 HW hbH
  cases wd
  · by_cases h2 : 40 < cand.length
    · have d2 : decide (40 < (cand.length : Int)) = true := by simp; omega
      go_wp2_with fail
      refine (runs_any _).mono ?_
      rintro e w2 ⟨rfl, hf2⟩
      go_wp2
      go_ret
      exact ⟨rfl, hF1.trans hf2⟩
    · have d2 : decide (40 < (cand.length : Int)) = false := by simp; omega
      by_cases h3 : 40 < skip.length
      · have d3 : decide (40 < (skip.length : Int)) = true := by simp; omega
        go_wp2_with fail
        refine (runs_any _).mono ?_
        rintro e w2 ⟨rfl, hf2⟩
        go_wp2
        go_ret
        exact ⟨rfl, hF1.trans hf2⟩
      · have d3 : decide (40 < (skip.length : Int)) = false := by simp; omega
        by_cases h4 : 100 < ans.length
        · have d4 : decide (100 < (ans.length : Int)) = true := by simp; omega
          go_wp2_with fail
          refine (runs_any _).mono ?_
          rintro e w2 ⟨rfl, hf2⟩
          go_wp2
          go_ret
          exact ⟨rfl, hF1.trans hf2⟩
        · have d4 : decide (100 < (ans.length : Int)) = false := by simp; omega
          go_wp2_with fail
          obtain ⟨⟨la, ea⟩, hra⟩ : ∃ r, r = ancestorsOf P v := ⟨_, rfl⟩
          have HRA := Lib.hid hra
          obtain ⟨⟨ch, ec⟩, hrc⟩ : ∃ r, r = chooseR P cand skip := ⟨_, rfl⟩
          have HRC := Lib.hid hrc
          obtain ⟨⟨q, eq⟩, hrq⟩ : ∃ r, r = culprits P skip bad times ans := ⟨_, rfl⟩
          have HRQ := Lib.hid hrq
          clear hra hrc hrq h2 h3 h4
          refine (Ancestors_any A c P v _ (ha.fr0 hF1)).mono ?_
          rw [← HRA.out]
          rintro e w2 ⟨A2, c2, rfl, hf2, ho2⟩
          have r2 : Rd w2 (.int .i64) A2 c2 la := (Rd.of_own ho2).2
          have hF2 := hF1.trans hf2
          have hH2 := hH1.fr hf2 (by simp)
          have q2 := hH2.cell 0 rfl
          clear ho2 hf2 q1 hF1 hH1
          go_wp2_with fail
          refine (refAncestors_any A c P v _ (ha.fr0 hF2)).mono ?_
          rw [← HRA.out]
          rintro e w3 ⟨A3, c3, rfl, hf3, ho3⟩
          have r3 : Rd w3 (.int .i64) A3 c3 la := (Rd.of_own ho3).2
          have r2' := r2.fr0 hf3
          have hF3 := hF2.trans hf3
          have hH3 := hH2.fr hf3 (by simp)
          have q3 := hH3.cell 0 rfl
          clear ho3 hf3 q2 hF2 hH2 r2
          go_wp2_with fail
          have dl : decide (la = la) = true := by simp
          go_region_held3 (fun w' => w'.cell? ⟨w.heap.size, 0, none⟩ = some (.slice A P.length c))
            (first
              | go_keep
              | exact hfa.cell (by assumption) (by simp)
              | exact hfb.cell (by assumption) (by simp))
            (first
              | (go_at_call 33; refine (lawints_any A2 A3 c2 c3 la la _ (r2'.fr0 (by repeat (first | exact Fr.refl _ _ | assumption | apply Fr.drewN | apply Fr.drew | apply Fr.alloc | refine Fr.setCell ?_ (by simp) _))) (r3.fr0 (by repeat (first | exact Fr.refl _ _ | assumption | apply Fr.drewN | apply Fr.drew | apply Fr.alloc | refine Fr.setCell ?_ (by simp) _)))).mono ?_; rw [dl]; rintro e w4 ⟨rfl, n4, rfl⟩)
              | (go_at_call 34; refine (CheckHistory_any A c P _ (ha.fr0 (by repeat (first | exact Fr.refl _ _ | assumption | apply Fr.drewN | apply Fr.drew | apply Fr.alloc | refine Fr.setCell ?_ (by simp) _)))).mono ?_; rintro e w5 ⟨rfl, hfa⟩; have hFa : Fr [] w w5 := (Fr.trans (by repeat (first | exact Fr.refl _ _ | assumption | apply Fr.drewN | apply Fr.drew | apply Fr.alloc | refine Fr.setCell ?_ (by simp) _)) hfa); have hGa : Fr [] w3 w5 := (Fr.trans (by repeat (first | exact Fr.refl _ _ | assumption | apply Fr.drewN | apply Fr.drew | apply Fr.alloc | refine Fr.setCell ?_ (by simp) _)) hfa))
              | (go_at_call 29; refine (refCheckHistory_any A c P _ (ha.fr0 (by repeat (first | exact Fr.refl _ _ | assumption | apply Fr.drewN | apply Fr.drew | apply Fr.alloc | refine Fr.setCell ?_ (by simp) _)))).mono ?_; rintro e w6 ⟨rfl, hfb⟩; have hFb : Fr [] w w6 := (Fr.trans (by repeat (first | exact Fr.refl _ _ | assumption | apply Fr.drewN | apply Fr.drew | apply Fr.alloc | refine Fr.setCell ?_ (by simp) _)) hfb); have hGb : Fr [] w3 w6 := (Fr.trans (by repeat (first | exact Fr.refl _ _ | assumption | apply Fr.drewN | apply Fr.drew | apply Fr.alloc | refine Fr.setCell ?_ (by simp) _)) hfb)))
          have hH6 := hH3.fr hGb (by simp)
          have q6 := hH6.cell 0 rfl
          clear hFa hGa hGb hfa hfb r2' r3 dl q3 hH3 hF3
          go_wp2_with fail
          refine (Choose_any A B C c b s P cand skip _ (ha.fr0 hFb) (hb.fr0 hFb) (hc.fr0 hFb)).mono ?_
          rw [← HRC.out]
          rintro e w7 ⟨rfl, hf7⟩
          have hF7 := hFb.trans hf7
          have hH7 := hH6.fr hf7 (by simp)
          have q7 := hH7.cell 0 rfl
          clear hFb hf7 hH6 q6
          go_wp2_with fail
          refine (refChoose_any A B C c b s P cand skip _ (ha.fr0 hF7) (hb.fr0 hF7) (hc.fr0 hF7)).mono ?_
          rw [← HRC.out]
          rintro e w8 ⟨rfl, hf8⟩
          have hF8 := hF7.trans hf8
          have hH8 := hH7.fr hf8 (by simp)
          have q8 := hH8.cell 0 rfl
          clear hF7 hf8 hH7 q7
          go_wp2_with fail
          refine (Culprits_any A C c s P skip bad times D f ans _ (ha.fr0 hF8) (hc.fr0 hF8) (hd.fr0 hF8)).mono ?_
          rw [← HRQ.out]
          rintro e w9 ⟨v9, rfl, hf9, A1, a1, B1, b1, C1, c1, rfl, ⟨hq1, _⟩, ⟨hq2, _⟩, hq3, _⟩
          have hF9 := hF8.trans hf9
          have hH9 := hH8.fr hf9 (by simp)
          clear hF8 hf9 hH8 q8
          have hQ1 := Blk.new w9 26 #[.bool q.done, .slice A1 q.ask.length a1, .slice B1 q.kept.length b1, .slice C1 q.pass.length c1] _ rfl
          have hH10 := hH9.alloc (.cells #[.bool q.done, .slice A1 q.ask.length a1, .slice B1 q.kept.length b1, .slice C1 q.pass.length c1] 26)
          have q10 := hH9.cell 0 rfl
          have hl9 := hH9.lt
          go_wp2_with fail
          refine (refCulprits_any A C c s P skip bad times D f ans _ (ha.fr0 (by repeat (first | exact Fr.refl _ _ | assumption | apply Fr.drewN | apply Fr.drew | apply Fr.alloc | refine Fr.setCell ?_ (by simp) _))) (hc.fr0 (by repeat (first | exact Fr.refl _ _ | assumption | apply Fr.drewN | apply Fr.drew | apply Fr.alloc | refine Fr.setCell ?_ (by simp) _))) (hd.fr0 (by repeat (first | exact Fr.refl _ _ | assumption | apply Fr.drewN | apply Fr.drew | apply Fr.alloc | refine Fr.setCell ?_ (by simp) _)))).mono ?_
          rw [← HRQ.out]
          rintro e w11 ⟨v11, rfl, hf11, A2', a2, B2, b2, C2, c2', rfl, hr1, hr2, hr3⟩
          have hF11 : Fr [] w9 w11 := Fr.trans ((Fr.refl _ _).alloc _) hf11
          have hQ2 := hQ1.fr hf11 (by simp)
          have hQ3 := hQ2.alloc (.cells #[.bool q.done, .slice A2' q.ask.length a2, .slice B2 q.kept.length b2, .slice C2 q.pass.length c2'] 26)
          clear hQ1 hQ2 q10
          have qc0 := hQ3.cell 0 rfl
          have qc1 := hQ3.cell 1 rfl
          have qc2 := hQ3.cell 2 rfl
          have qc3 := hQ3.cell 3 rfl
          have qd0 := hQ3.frozen 0
          have qd1 := hQ3.frozen 1
          have qd2 := hQ3.frozen 2
          have qd3 := hQ3.frozen 3
          go_wp2_with fail
          refine (SameQuest_any q q A1 B1 C1 A2' B2 C2 a1 b1 c1 a2 b2 c2' _ (hq1.fr0 (hF11.alloc _)) (hq2.fr0 (hF11.alloc _)) (hq3.fr0 (hF11.alloc _)) (hr1.alloc _) (hr2.alloc _) (hr3.alloc _)).mono ?_
          rintro e w12 ⟨rfl, hf12⟩
          go_wp2_with fail
          refine (runs_any _).mono ?_
          rintro e w13 ⟨rfl, hf13⟩
          go_wp2
          go_ret
          exact ⟨by simp, (hF9.trans ((hF11.alloc _).trans hf12)).trans hf13⟩
  · go_wp2_with fail
    refine (runs_any _).mono ?_
    rintro e w2 ⟨rfl, hf2⟩
    go_wp2
    go_ret
    exact ⟨rfl, hF1.trans hf2⟩
end Go.Proofs.Ytjpbmbonccenfaa
