/- Texts of this seat, one behind the other: RSch, LSch. -/
import Derived.Test.YtjpbmbonccenfaaDoort226
import Derived.Test.YtjpbmbonccenfaaDoort230
import Derived.Test.YtjpbmbonccenfaaDoort217
import Derived.Test.YtjpbmbonccenfaaDoort223
/- Schedule of the reference. -/
namespace Go.Proofs.YtjpbmbonccenfaaDoor
open Go.RowKit
set_option linter.unusedVariables false

/-- Between two rounds. -/
def RSInv (w : World) (bp : Nat) (ans : List Int) (full : List Pk ⊕ (PRes × (Nat × KnP))) (t : Nat) (v0 v8 v9 : Value) (wr : World) : Prop :=
  ∃ (A : Option Addr) (c : Nat) (l : List Pk) (ok : Bool), v0 = .slice A l.length c ∧ v8 = .bool ok ∧ 2 * l.length + (if ok then 1 else 0) < t ∧ FrQ w.heap.size w wr ∧ Blk wr w.heap.size 51 #[.bool false, .slice none 0 0] ∧ Rp wr A c l ∧ StayQ w.heap.size wr A ∧ NF l ∧ l.length ≤ 256 ∧
    ((ok = true ∧ ∃ u kn, kn.length ≤ u ∧ Hid (full = (schS l 0).go (askSP ans) (u, kn)) ∧ PKnQ w.heap.size wr bp ans u kn false []) ∨
      (ok = false ∧ ∃ q u kn, Hid (full = .inl q) ∧ PKnQ w.heap.size wr bp ans u kn true q) ∨
      (ok = false ∧ ∃ u kn, Hid (full = .inr ((0, l), (u, kn))) ∧ PKnQ w.heap.size wr bp ans u kn false []))

set_option maxRecDepth 100000 in
set_option maxHeartbeats 3200000 in
theorem refSchedule_any (A D : Option Addr) (c d : Nat) (ps : List Pk) (ans : List Int) (w : World) (ha : Rp w A c ps) (hd : Rd w (.int .u8) D d ans) :
    Calls Tryd.prog 49 #[.slice A ps.length c, .slice D ans.length d] w (RetPq w (scheduleOf ps ans)) := by
  have hn0 : ∀ W : World, Rp W none 0 ([] : List Pk) := fun W => Rp.nil_ W
  have HSC : Hid (scheduleOf ps ans = if (normal ps).2 ≠ 0 then (⟨false, []⟩, (normal ps).2) else if 256 < (normal ps).1.length then (⟨false, []⟩, 3) else qOfP ans (scheduleT (normal ps).1)) := rfl
  have hnf := Lib.hid (fun h => nf_normal (ps := ps) h)
  have hdb := hd.bound
  have hnr := refNormalU_any A c ps (w.alloc (.cells #[.bool false, .slice none 0 0] 51)) (ha.alloc _)
  have hb0 := Blk.new w 51 #[.bool false, .slice none 0 0] _ rfl
  have hF0 : Fr [] w (w.alloc (.cells #[.bool false, .slice none 0 0] 51)) := (Fr.refl _ _).alloc _
  generalize normal ps = nr at *
  obtain ⟨l, er⟩ := nr
  go_enter Tryd.func49, Tryd.ntmps49
  go_wp2_with fail
  refine hnr.mono ?_
  rintro e w2 ⟨A2, c2, rfl, hf2, ho2⟩
  have hF2 := hF0.trans hf2
  have hq2 := hb0.fr hf2 (by simp)
  have hr2 : Rp w2 A2 c2 l := (Rp.of_own ho2).2
  have hs2 : StayQ w.heap.size w2 A2 := StayQ.own ho2
  have qc0 := hq2.cell 0 rfl
  have qc1 := hq2.cell 1 rfl
  have qd0 := hq2.frozen 0
  have qd1 := hq2.frozen 1
  have hz2 := hF2.size
  clear hnr hb0 hF0 hf2
  by_cases her : er = 0
  · subst her
    have hNF : NF l := hnf.out rfl
    have HN0 : Hid (scheduleOf ps ans = if 256 < l.length then (⟨false, []⟩, 3) else qOfP ans (scheduleT l)) := by show _ = _; rw [HSC.out]; exact if_neg (by simp)
    clear hnf HSC
    by_cases hll : 256 < l.length
    · have hcb : decide ((l.length : Int) > 256) = true := by simp; omega
      have hR : Hid (scheduleOf ps ans = (⟨false, []⟩, 3)) := by show _ = _; rw [HN0.out, if_pos hll]
      clear HN0 hNF
      go_wp2_with fail
      refine bodyPost_ret (results_pq rfl _ _ w.heap.size rfl (hq2.two _ _)) rfl ?_
      rw [hR.out]
      exact pq_ret (r := (⟨false, []⟩, 3)) (by omega) hF2 hq2 (hn0 _)
    · have hcb : decide ((l.length : Int) > 256) = false := by simp; omega
      have hR0 : Hid (scheduleOf ps ans = qOfP ans (scheduleT l)) := by show _ = _; rw [HN0.out, if_neg hll]
      clear HN0
      by_cases h4 : 4096 < ans.length
      · have hcc : decide ((ans.length : Int) > 4096) = true := by simp; omega
        have hR : Hid (scheduleOf ps ans = (⟨false, []⟩, 3)) := by show _ = _; rw [hR0.out]; unfold qOfP; rw [if_pos h4]
        clear hR0 hNF
        go_wp2_with fail
        refine bodyPost_ret (results_pq rfl _ _ w.heap.size rfl (hq2.two _ _)) rfl ?_
        rw [hR.out]
        exact pq_ret (r := (⟨false, []⟩, 3)) (by omega) hF2 hq2 (hn0 _)
      · have hcc : decide ((ans.length : Int) > 4096) = false := by simp; omega
        obtain ⟨full, hful⟩ : ∃ f, (scheduleT l).go (askSP ans) (0, []) = f := ⟨_, rfl⟩
        have hR : Hid (scheduleOf ps ans = finP ans full) := by show _ = _; rw [hR0.out]; unfold qOfP; rw [if_neg h4, hful]
        have HFU := Lib.hid hful
        have h4' : ans.length ≤ 4096 := by omega
        have hll' : l.length ≤ 256 := by omega
        clear hful hR0 h4 hll
        have hpk : PKnQ w.heap.size (w2.alloc (.cells #[.slice D ans.length d, .int .i64 0, .slice none 0 0, .slice none 0 0, .bool false, .slice none 0 0] 129)) w2.heap.size ans 0 [] false [] :=
          ⟨⟨D, d, .slice none 0 0, .slice none 0 0, none, 0, [], Blk.new _ _ _ _ rfl, (hd.fr0 hF2).alloc _, fun h0 x hx => hd.lt h0 x hx, Rp.nil_ _, StayQ.none_ _ _, World.ownsRow_nil _ _ _ _, World.ownsRow_nil _ _ _ _, by simp⟩, hz2, Nat.zero_le _⟩
        have hq3 := hq2.alloc (.cells #[.slice D ans.length d, .int .i64 0, .slice none 0 0, .slice none 0 0, .bool false, .slice none 0 0] 129)
        have hr3 := hr2.alloc (.cells #[.slice D ans.length d, .int .i64 0, .slice none 0 0, .slice none 0 0, .bool false, .slice none 0 0] 129)
        have hs3 : StayQ w.heap.size (w2.alloc (.cells #[.slice D ans.length d, .int .i64 0, .slice none 0 0, .slice none 0 0, .bool false, .slice none 0 0] 129)) A2 := hs2.frp (FrQ.of_fr0 ((Fr.refl [] _).alloc _))
        have hF3 : Fr [] w (w2.alloc (.cells #[.slice D ans.length d, .int .i64 0, .slice none 0 0, .slice none 0 0, .bool false, .slice none 0 0] 129)) := hF2.alloc _
        clear hq2 hr2 hs2 hF2 ho2 qc0 qc1 qd0 qd1
        have HNF := Lib.hid hNF
        have hfa := failing_any w.heap.size w2.heap.size ans 0 [] A2 c2 l _ hpk hr3 hs3 (by simp)
        clear hpk
        go_wp2_with fail
        refine hfa.mono ?_
        intro e w4 hpost
        unfold AskPostQ at hpost
        clear hfa
        have hf3q : FrQ w.heap.size w (w2.alloc (.cells #[.slice D ans.length d, .int .i64 0, .slice none 0 0, .slice none 0 0, .bool false, .slice none 0 0] 129)) := FrQ.of_fr0 hF3
        rcases hq : askVP ans 0 [] l with _ | ⟨v, u, kn⟩
        · rw [hq] at hpost
          obtain ⟨rfl, hf4, hp4⟩ := hpost
          have hfe : Hid (full = .inl l) := by show _ = _; rw [← HFU.out, scheduleT_S, Tr.go_none (askS_noneP hq)]
          have hI : ∀ v9, RSInv w w2.heap.size ans full (2 * l.length + 2) (.slice A2 l.length c2) (.bool false) v9 w4 := fun v9 =>
            ⟨A2, c2, l, false, rfl, rfl, by simp, hf3q.trans hf4, FrQ.blk hq3 hf4 (.inr (by decide)), hr3.frq hs3 hf4, hs3.frp hf4, HNF.out, hll', .inr (.inl ⟨rfl, l, 0, [], hfe, hp4⟩)⟩
          obtain ⟨_, _, _, _, _, _, _, hb, _⟩ := id hp4.ex
          have k4 := hb.cell 4 rfl
          clear hq hfe hp4 hf4 hb
          go_wp2_with fail
          go_loopg [0, 8, 9] (2 * l.length + 2) (RSInv w w2.heap.size ans full)
          case atStart => exact hI _
          case round =>
            clear hI
            obtain ⟨A5, c5, l5, ok, rfl, rfl, hm5, hf5, hq5, hr5, hs5, hn5, hl5, hcase⟩ := hrel
            obtain ⟨t, rfl⟩ : ∃ t, gk = t + 1 := ⟨gk - 1, by omega⟩
            have HN5 := Lib.hid hn5
            clear hn5
            rcases hcase with ⟨rfl, u, kn, hkn, hfu, hpk⟩ | ⟨rfl, q, u, kn, hfu, hpk⟩ | ⟨rfl, u, kn, hfu, hpk⟩
            · have hjo := refjoined_any w.heap.size w2.heap.size ans u kn A5 c5 l5 full wr hpk hr5 hs5 HN5.out hl5 hkn h4' hfu
              clear hpk hfu hkn
              go_wp2_with fail
              refine hjo.mono ?_
              rintro e w6 ⟨A6, c6, x, ok, rfl, hf6, hr6, hs6, hc6⟩
              have hq6 := FrQ.blk hq5 hf6 (.inr (by decide))
              have hF6 := hf5.trans hf6
              clear hjo
              rcases hc6 with ⟨rfl, hnx, hlx, u2, kn2, hk2, hfu2, hp2⟩ | ⟨rfl, q, u2, kn2, hfu2, hp2⟩ | ⟨rfl, u2, kn2, hfu2, hp2⟩
              · have HG := Lib.hid hfu2
                have HX := Lib.hid hnx
                clear hfu2 hnx
                go_wp2_with fail
                go_roundg t
                case measure => omega
                case rel => exact ⟨A6, c6, x, true, rfl, rfl, by simp at hm5 ⊢; omega, hF6, hq6, hr6, hs6, HX.out, by omega, .inl ⟨rfl, u2, kn2, hk2, HG, hp2⟩⟩
              · have HG := Lib.hid hfu2
                clear hfu2
                go_wp2_with fail
                go_roundg t
                case measure => omega
                case rel => exact ⟨A5, c5, l5, false, rfl, rfl, by simp at hm5 ⊢; omega, hF6, hq6, hr5.frq hs5 hf6, hs5.frp hf6, HN5.out, hl5, .inr (.inl ⟨rfl, q, u2, kn2, HG, hp2⟩)⟩
              · have HG := Lib.hid hfu2
                clear hfu2
                go_wp2_with fail
                go_roundg t
                case measure => omega
                case rel => exact ⟨A5, c5, l5, false, rfl, rfl, by simp at hm5 ⊢; omega, hF6, hq6, hr5.frq hs5 hf6, hs5.frp hf6, HN5.out, hl5, .inr (.inr ⟨rfl, u2, kn2, HG, hp2⟩)⟩
            · obtain ⟨_, _, _, _, DD, dd, _, hb, _, _, hrD, _⟩ := id hpk.ex
              have k4 := hb.cell 4 rfl
              have k5 := hb.cell 5 rfl
              have qc0 := hq5.cell 0 rfl
              have qc1 := hq5.cell 1 rfl
              have qd0 := hq5.frozen 0
              have qd1 := hq5.frozen 1
              have hR2 : Hid (scheduleOf ps ans = (⟨false, q⟩, 0)) := by show _ = _; rw [hR.out, hfu.out]; rfl
              clear hfu
              go_wp2_with fail
              refine bodyPost_ret (results_pq rfl _ _ w.heap.size rfl (hq5.two _ _)) rfl ?_
              rw [hR2.out]
              exact pq_ret (r := (⟨false, q⟩, 0)) (Nat.le_refl _) (hf5.fr rfl) hq5 hrD
            · obtain ⟨_, _, _, _, DD, dd, _, hb, _, _, hrD, _⟩ := id hpk.ex
              have k4 := hb.cell 4 rfl
              have k1 := hb.cell 1 rfl
              have qc0 := hq5.cell 0 rfl
              have qc1 := hq5.cell 1 rfl
              have qd0 := hq5.frozen 0
              have qd1 := hq5.frozen 1
              by_cases hu : u < ans.length
              · have hR2 : Hid (scheduleOf ps ans = (⟨false, []⟩, 8)) := by show _ = _; rw [hR.out, hfu.out]; simp [finP, hu]
                have du : decide ((u : Int) < ans.length) = true := by simp; omega
                clear hfu
                go_wp2_with fail
                refine bodyPost_ret (results_pq rfl _ _ w.heap.size rfl (hq5.two _ _)) rfl ?_
                rw [hR2.out]
                exact pq_ret (r := (⟨false, []⟩, 8)) (Nat.le_refl _) (hf5.fr rfl) hq5 (hn0 _)
              · have hR2 : Hid (scheduleOf ps ans = (⟨true, l5⟩, 0)) := by show _ = _; rw [hR.out, hfu.out]; simp [finP, hu]
                have du : decide ((u : Int) < ans.length) = false := by simp; omega
                clear hfu
                go_wp2_with fail
                refine bodyPost_ret (results_pq rfl _ _ w.heap.size rfl (hq5.two _ _)) rfl ?_
                rw [hR2.out]
                exact pq_ret (r := (⟨true, l5⟩, 0)) (Nat.le_refl _) (hf5.fr rfl) hq5 hr5
        · rw [hq] at hpost
          obtain ⟨he4, hf4, hp4⟩ := hpost
          have hlen := askVP_len hq (by simp)
          have hgo : full = (if v = 2 then schS l 0 else .ret (7, l)).go (askSP ans) (u, kn) := by rw [← HFU.out, scheduleT_S, Tr.go_some (askS_someP hq)]
          clear hq
          by_cases hv : v = 2
          · have hb2 : (v == 2) = true := by simp [hv]
            rw [if_pos hv] at hgo
            rw [hb2] at he4
            subst he4
            have hI : ∀ v9, RSInv w w2.heap.size ans full (2 * l.length + 2) (.slice A2 l.length c2) (.bool true) v9 w4 := fun v9 =>
              ⟨A2, c2, l, true, rfl, rfl, by simp, hf3q.trans hf4, FrQ.blk hq3 hf4 (.inr (by decide)), hr3.frq hs3 hf4, hs3.frp hf4, HNF.out, hll', .inl ⟨rfl, u, kn, hlen, hgo, hp4⟩⟩
            clear hgo hp4 hf4 hv hb2
            go_wp2_with fail
            go_loopg [0, 8, 9] (2 * l.length + 2) (RSInv w w2.heap.size ans full)
            case atStart => exact hI _
            case round =>
              clear hI
              obtain ⟨A5, c5, l5, ok, rfl, rfl, hm5, hf5, hq5, hr5, hs5, hn5, hl5, hcase⟩ := hrel
              obtain ⟨t, rfl⟩ : ∃ t, gk = t + 1 := ⟨gk - 1, by omega⟩
              have HN5 := Lib.hid hn5
              clear hn5
              rcases hcase with ⟨rfl, u, kn, hkn, hfu, hpk⟩ | ⟨rfl, q, u, kn, hfu, hpk⟩ | ⟨rfl, u, kn, hfu, hpk⟩
              · have hjo := refjoined_any w.heap.size w2.heap.size ans u kn A5 c5 l5 full wr hpk hr5 hs5 HN5.out hl5 hkn h4' hfu
                clear hpk hfu hkn
                go_wp2_with fail
                refine hjo.mono ?_
                rintro e w6 ⟨A6, c6, x, ok, rfl, hf6, hr6, hs6, hc6⟩
                have hq6 := FrQ.blk hq5 hf6 (.inr (by decide))
                have hF6 := hf5.trans hf6
                clear hjo
                rcases hc6 with ⟨rfl, hnx, hlx, u2, kn2, hk2, hfu2, hp2⟩ | ⟨rfl, q, u2, kn2, hfu2, hp2⟩ | ⟨rfl, u2, kn2, hfu2, hp2⟩
                · have HG := Lib.hid hfu2
                  have HX := Lib.hid hnx
                  clear hfu2 hnx
                  go_wp2_with fail
                  go_roundg t
                  case measure => omega
                  case rel => exact ⟨A6, c6, x, true, rfl, rfl, by simp at hm5 ⊢; omega, hF6, hq6, hr6, hs6, HX.out, by omega, .inl ⟨rfl, u2, kn2, hk2, HG, hp2⟩⟩
                · have HG := Lib.hid hfu2
                  clear hfu2
                  go_wp2_with fail
                  go_roundg t
                  case measure => omega
                  case rel => exact ⟨A5, c5, l5, false, rfl, rfl, by simp at hm5 ⊢; omega, hF6, hq6, hr5.frq hs5 hf6, hs5.frp hf6, HN5.out, hl5, .inr (.inl ⟨rfl, q, u2, kn2, HG, hp2⟩)⟩
                · have HG := Lib.hid hfu2
                  clear hfu2
                  go_wp2_with fail
                  go_roundg t
                  case measure => omega
                  case rel => exact ⟨A5, c5, l5, false, rfl, rfl, by simp at hm5 ⊢; omega, hF6, hq6, hr5.frq hs5 hf6, hs5.frp hf6, HN5.out, hl5, .inr (.inr ⟨rfl, u2, kn2, HG, hp2⟩)⟩
              · obtain ⟨_, _, _, _, DD, dd, _, hb, _, _, hrD, _⟩ := id hpk.ex
                have k4 := hb.cell 4 rfl
                have k5 := hb.cell 5 rfl
                have qc0 := hq5.cell 0 rfl
                have qc1 := hq5.cell 1 rfl
                have qd0 := hq5.frozen 0
                have qd1 := hq5.frozen 1
                have hR2 : Hid (scheduleOf ps ans = (⟨false, q⟩, 0)) := by show _ = _; rw [hR.out, hfu.out]; rfl
                clear hfu
                go_wp2_with fail
                refine bodyPost_ret (results_pq rfl _ _ w.heap.size rfl (hq5.two _ _)) rfl ?_
                rw [hR2.out]
                exact pq_ret (r := (⟨false, q⟩, 0)) (Nat.le_refl _) (hf5.fr rfl) hq5 hrD
              · obtain ⟨_, _, _, _, DD, dd, _, hb, _, _, hrD, _⟩ := id hpk.ex
                have k4 := hb.cell 4 rfl
                have k1 := hb.cell 1 rfl
                have qc0 := hq5.cell 0 rfl
                have qc1 := hq5.cell 1 rfl
                have qd0 := hq5.frozen 0
                have qd1 := hq5.frozen 1
                by_cases hu : u < ans.length
                · have hR2 : Hid (scheduleOf ps ans = (⟨false, []⟩, 8)) := by show _ = _; rw [hR.out, hfu.out]; simp [finP, hu]
                  have du : decide ((u : Int) < ans.length) = true := by simp; omega
                  clear hfu
                  go_wp2_with fail
                  refine bodyPost_ret (results_pq rfl _ _ w.heap.size rfl (hq5.two _ _)) rfl ?_
                  rw [hR2.out]
                  exact pq_ret (r := (⟨false, []⟩, 8)) (Nat.le_refl _) (hf5.fr rfl) hq5 (hn0 _)
                · have hR2 : Hid (scheduleOf ps ans = (⟨true, l5⟩, 0)) := by show _ = _; rw [hR.out, hfu.out]; simp [finP, hu]
                  have du : decide ((u : Int) < ans.length) = false := by simp; omega
                  clear hfu
                  go_wp2_with fail
                  refine bodyPost_ret (results_pq rfl _ _ w.heap.size rfl (hq5.two _ _)) rfl ?_
                  rw [hR2.out]
                  exact pq_ret (r := (⟨true, l5⟩, 0)) (Nat.le_refl _) (hf5.fr rfl) hq5 hr5
          · have hb2 : (v == 2) = false := by simpa using hv
            rw [if_neg hv] at hgo
            rw [hb2] at he4
            subst he4
            have hR2 : Hid (scheduleOf ps ans = (⟨false, []⟩, 7)) := by show _ = _; rw [hR.out, hgo]; rfl
            obtain ⟨_, _, _, _, _, _, _, hb, _⟩ := id hp4.ex
            have k4 := hb.cell 4 rfl
            have hq4 := FrQ.blk hq3 hf4 (.inr (by decide))
            have qc0 := hq4.cell 0 rfl
            have qc1 := hq4.cell 1 rfl
            have qd0 := hq4.frozen 0
            have qd1 := hq4.frozen 1
            have hF4 : Fr [] w w4 := (hf3q.trans hf4).fr rfl
            clear hgo hv hb2 hf4 hp4
            go_wp2_with fail
            refine bodyPost_ret (results_pq rfl _ _ w.heap.size rfl (hq4.two _ _)) rfl ?_
            rw [hR2.out]
            exact pq_ret (r := (⟨false, []⟩, 7)) (Nat.le_refl _) hF4 hq4 (hn0 _)
  · have heb : (er != 0) = true := by simpa using her
    have hR : Hid (scheduleOf ps ans = (⟨false, []⟩, er)) := by show _ = _; rw [HSC.out]; exact if_pos her
    clear her HSC hnf
    go_wp2_with fail
    refine bodyPost_ret (results_pq rfl _ _ w.heap.size rfl (hq2.two _ _)) rfl ?_
    rw [hR.out]
    exact pq_ret (r := (⟨false, []⟩, er)) (by omega) hF2 hq2 (hn0 _)
end Go.Proofs.YtjpbmbonccenfaaDoor

/- ReduceSchedules: the walk. -/
namespace Go.Proofs.YtjpbmbonccenfaaDoor
open Go.RowKit
set_option linter.unusedVariables false

set_option maxRecDepth 100000 in
set_option maxHeartbeats 3200000 in
theorem LSch_any (A D : Option Addr) (c d : Nat) (ps : List Pk) (at_ : Int) (ans : List Int) (w : World) (ha : Rp w A c ps) (hd : Rd w (.int .u8) D d ans) (htab : Tab w) :
    Calls Tryd.prog 8 #[.slice A ps.length c, .int .i64 at_, .slice D ans.length d] w (RetV w (.bool true)) := by
  have hbd := ha.bound
  have hbd2 := hd.bound
  by_cases h30 : 30 < ps.length
  · have d1 : decide (30 < (ps.length : Int)) = true := by simp; omega
    go_enter Tryd.func8, Tryd.ntmps8
    go_wp2_with fail
    refine (runs_any _).mono ?_
    rintro e w1 ⟨rfl, hf1⟩
    go_wp2
    go_ret
    exact ⟨rfl, hf1⟩
  · have d1 : decide (30 < (ps.length : Int)) = false := by simp; omega
    by_cases h60 : 60 < ans.length
    · have d2 : decide (60 < (ans.length : Int)) = true := by simp; omega
      go_enter Tryd.func8, Tryd.ntmps8
      go_wp2_with fail
      refine (runs_any _).mono ?_
      rintro e w1 ⟨rfl, hf1⟩
      go_wp2
      go_ret
      exact ⟨rfl, hf1⟩
    · have d2 : decide (60 < (ans.length : Int)) = false := by simp; omega
      have hN1 := fun W h => Normal_any A c ps W h (by omega)
      have hN2 := fun W h => refNormalU_any A c ps W h
      have hP1 := fun W h => Preemptions_any A c ps W h (by omega)
      have hP2 := fun W h => refPreemptions_any A c ps W h (by omega)
      have hJ1 := fun W h => Join_any A c ps at_ W h (by omega)
      have hJ2 := fun W h => refJoin_any A c ps at_ W h (by omega)
      have hS1 := fun W h1 h2 h3 => Schedule_any A D c d ps ans W h1 (by omega) h2 h3
      have hS2 := fun W h1 h2 => refSchedule_any A D c d ps ans W h1 h2
      generalize normal ps = nr at *
      generalize preemptions ps = pr at *
      generalize joinAt ps at_ = jr at *
      generalize scheduleOf ps ans = sr at *
      obtain ⟨nl, ne⟩ := nr
      obtain ⟨pl, pe⟩ := pr
      obtain ⟨jl, je⟩ := jr
      obtain ⟨⟨sdn, sl⟩, se⟩ := sr
      have hnn : decide (nl = nl) = true := by simp
      have hpp : decide (pl = pl) = true := by simp
      have hjj : decide (jl = jl) = true := by simp
      have hss : decide (sl = sl) = true := by simp
      go_enter Tryd.func8, Tryd.ntmps8
      go_wp2_with fail
      refine (hN1 _ ha).mono ?_
      rintro e w1 ⟨A1, c1, rfl, hf1, ho1⟩
      have hr1 : Rp w1 A1 c1 nl := (Rp.of_own ho1).2
      go_wp2_with fail
      refine (hN2 _ (ha.fr0 hf1)).mono ?_
      rintro e w2 ⟨A2, c2, rfl, hf2, ho2⟩
      have hr2 : Rp w2 A2 c2 nl := (Rp.of_own ho2).2
      have hF2 := hf1.trans hf2
      go_wp2_with fail
      refine (SamePicks_any A1 A2 c1 c2 nl nl _ (hr1.fr0 hf2) hr2).mono ?_
      rintro e w3 ⟨rfl, n3, rfl⟩
      have hF3 := hF2.drewN n3
      clear hN1 hN2 hr1 hr2 ho1 ho2 hf1 hf2 hF2
      generalize w2.drewN n3 = w3 at *
      go_wp2_with fail
      refine (hP1 _ (ha.fr0 hF3)).mono ?_
      rintro e w4 ⟨A4, c4, rfl, hf4, ho4⟩
      have hr4 : Rd w4 (.int .i64) A4 c4 pl := (Rd.of_own ho4).2
      have hF4 := hF3.trans hf4
      go_wp2_with fail
      refine (hP2 _ (ha.fr0 hF4)).mono ?_
      rintro e w5 ⟨A5, c5, rfl, hf5, ho5⟩
      have hr5 : Rd w5 (.int .i64) A5 c5 pl := (Rd.of_own ho5).2
      have hF5 := hF4.trans hf5
      go_wp2_with fail
      refine (lawints_any A4 A5 c4 c5 pl pl _ (hr4.fr0 hf5) hr5).mono ?_
      rintro e w6 ⟨rfl, n6, rfl⟩
      have hF6 := hF5.drewN n6
      clear hP1 hP2 hr4 hr5 ho4 ho5 hf4 hf5 hF3 hF4 hF5
      generalize w5.drewN n6 = w6 at *
      go_wp2_with fail
      refine (hJ1 _ (ha.fr0 hF6)).mono ?_
      rintro e w7 ⟨A7, c7, rfl, hf7, ho7⟩
      have hr7 : Rp w7 A7 c7 jl := (Rp.of_own ho7).2
      have hF7 := hF6.trans hf7
      go_wp2_with fail
      refine (hJ2 _ (ha.fr0 hF7)).mono ?_
      rintro e w8 ⟨A8, c8, rfl, hf8, ho8⟩
      have hr8 : Rp w8 A8 c8 jl := (Rp.of_own ho8).2
      have hF8 := hF7.trans hf8
      go_wp2_with fail
      refine (SamePicks_any A7 A8 c7 c8 jl jl _ (hr7.fr0 hf8) hr8).mono ?_
      rintro e w9 ⟨rfl, n9, rfl⟩
      have hF9 := hF8.drewN n9
      clear hJ1 hJ2 hr7 hr8 ho7 ho8 hf7 hf8 hF6 hF7 hF8
      generalize w8.drewN n9 = w9 at *
      go_wp2_with fail
      refine (hS1 _ (ha.fr0 hF9) (hd.fr0 hF9) (htab.fr hF9)).mono ?_
      rintro e w10 ⟨A10, c10, rfl, hf10, hr10⟩
      have hF10 : Fr [] w (w10.alloc (.cells #[.bool sdn, .slice A10 sl.length c10] 51)) := (hF9.trans hf10).alloc _
      have hb10 := Blk.new w10 51 #[.bool sdn, .slice A10 sl.length c10] _ rfl
      have hr10' := hr10.alloc (.cells #[.bool sdn, .slice A10 sl.length c10] 51)
      clear hf10 hF9 hr10 hS1
      go_wp2_with fail
      refine (hS2 _ (ha.fr0 hF10) (hd.fr0 hF10)).mono ?_
      rintro e w11 ⟨A11, c11, rfl, hf11, hr11⟩
      have hb11 := (hb10.fr hf11 (by simp)).alloc (.cells #[.bool sdn, .slice A11 sl.length c11] 51)
      have hb12 := Blk.new w11 51 #[.bool sdn, .slice A11 sl.length c11] _ rfl
      have hr12 := hr11.alloc (.cells #[.bool sdn, .slice A11 sl.length c11] 51)
      have hr13 := (hr10'.fr0 hf11).alloc (.cells #[.bool sdn, .slice A11 sl.length c11] 51)
      have hF12 : Fr [] w (w11.alloc (.cells #[.bool sdn, .slice A11 sl.length c11] 51)) := (hF10.trans hf11).alloc _
      have q0 := hb11.cell 0 rfl
      have q1 := hb11.cell 1 rfl
      have r0 := hb12.cell 0 rfl
      have r1 := hb12.cell 1 rfl
      have hbb : (sdn == sdn) = true := by simp
      clear hf11 hF10 hb10 hr10' hr11 hS2 hb11 hb12
      go_wp2_with fail
      refine (SamePicks_any A10 A11 c10 c11 sl sl _ hr13 hr12).mono ?_
      rintro e w13 ⟨rfl, n13, rfl⟩
      have hF13 := hF12.drewN n13
      go_wp2_with fail
      refine (runs_any _).mono ?_
      rintro e w14 ⟨rfl, hf14⟩
      go_wp2
      go_ret
      exact ⟨rfl, hF13.trans hf14⟩
end Go.Proofs.YtjpbmbonccenfaaDoor
