/- ReduceNormal: the walk. -/
import Derived.Test.YtjpbmbonccenfaaLNorm1
import Derived.WalkSpells
namespace Go.Proofs.Ytjpbmbonccenfaa
open Go.RowKit
set_option linter.unusedVariables false

set_option maxRecDepth 100000 in
set_option maxHeartbeats 6400000 in
theorem LNorm_any (ps : List Pk) (which : Int) (A : Option Addr) (c : Nat) (w : World) (ha : Rp w A c ps) (hw0 : -9223372036854775808 ≤ which) (hw1 : which ≤ 9223372036854775807) :
    Calls Try.prog 5 #[.slice A ps.length c, .int .i64 which] w (RetV w (.bool true)) := by
  have hbd := ha.bound
  by_cases h30 : 30 < ps.length
  · have d1 : decide (30 < (ps.length : Int)) = true := by simp; omega
    go_enter Try.func5, Try.ntmps5
    go_wp2_with fail
    refine (runs_any _).mono ?_
    rintro e w1 ⟨rfl, hf1⟩
    go_wp2
    go_ret
    exact ⟨rfl, hf1⟩
  · have hl30 : ps.length ≤ 30 := by omega
    clear h30
    by_cases hck : checkP 0 ps = 0
    · have hN := normal_ok hck
      have hN2 := normal_self hck
      have hP := preemptions_ok hck
      have hnl := normal_len ps
      have hno := fun h0 => no_pre hck h0 which
      have hyes := fun x => @yes_pre ps hck x
      have hap : Apart (joinedOf ps) := by rw [joined_rl]; exact rl_apart_ ps
      have hrl : rl ps = joinedOf ps := (joined_rl ps).symm
      obtain ⟨hv2, ht2⟩ := joined_facts2 hck
      have hvt := check_fine ps 0 hck (by omega)
      have hst : stArr (joinedOf ps) = stArr ps := stArr_eq (joined_steps ps)
      rw [hN] at hnl
      simp only at hnl
      have HN := Lib.hid hN
      have HN2 := Lib.hid hN2
      have HP := Lib.hid hP
      have HNO := Lib.hid hno
      have HYES := Lib.hid hyes
      have HAP := Lib.hid hap
      have HRL := Lib.hid hrl
      have HV2 := Lib.hid hv2
      have HVT := Lib.hid hvt
      have HST := Lib.hid hst
      clear hck hN hN2 hP hno hyes hap hrl hv2 hvt hst
      have hbnd : ∀ t, 0 ≤ stepsOf t ps ∧ stepsOf t ps ≤ 65536 := fun t => by
        have := steps_bnd (ps := ps) HVT.out.1 t
        have := HVT.out.2
        omega
      have hneq := fun W => run_arr_neq ps hbnd W
      have heql := fun W => run_arr_eql ps hbnd W
      generalize joinedOf ps = ns at *
      have HB := Lib.hid hbnd
      clear hbnd
      have hns30 : ns.length ≤ 30 := by omega
      go_enter Try.func5, Try.ntmps5
      go_wp2_with fail
      refine (refNormal_any A c ps w ha (by omega)).mono ?_
      rw [HN.out]
      rintro e w1 ⟨A1, c1, rfl, hf1, _⟩
      go_wp2_with fail
      refine (Normal_any A c ps w1 (ha.fr0 hf1) (by omega)).mono ?_
      rw [HN.out]
      rintro e w2 ⟨A2, c2, rfl, hf2, ho2⟩
      have hF2 := hf1.trans hf2
      have r2 := (Rp.of_own ho2).2
      clear hf1 hf2 ho2
      go_wp2_with fail
      refine (Normal_any A2 c2 ns w2 r2 (by omega)).mono ?_
      rw [HN2.out]
      rintro e w3 ⟨A3, c3, rfl, hf3, ho3⟩
      have hF3 := hF2.trans hf3
      have r3 := (Rp.of_own ho3).2
      have r2' := r2.fr0 hf3
      clear hf3 ho3 r2
      go_wp2_with fail
      refine (SamePicks_any A2 A3 c2 c3 ns ns w3 r2' r3).mono ?_
      rintro e w4 ⟨rfl, n4, rfl⟩
      have dd : decide (ns = ns) = true := by simp
      go_wp2_with fail
      refine (steps_any A2 c2 ns _ (r2'.drewN n4) HV2.out (by omega)).mono ?_
      rw [HST.out]
      rintro e w5 ⟨rfl, hf5⟩
      have hF5 := (hF3.drewN n4).trans hf5
      go_wp2_with fail
      refine (steps_any A c ps _ (ha.fr0 hF5) HVT.out.1 (by have := HVT.out.2; omega)).mono ?_
      rintro e w6 ⟨rfl, hf6⟩
      have hF6 := hF5.trans hf6
      have r6 := ((r2'.drewN n4).fr0 hf5).fr0 hf6
      have a6 := ha.fr0 hF6
      clear hf5 hf6 hF5 hF3 hF2 r2' r3 dd
      go_wp2_with fail
      go_loopw [13, 14, 15] (fun kv lv iv wr => ∃ (k i : Nat) (lf : Int), k ≤ ps.length ∧ i ≤ ns.length ∧ kv = .int .i64 k ∧ lv = .int .i64 lf ∧ iv = .int .i64 i ∧ Hid (rl (ps.drop k) = ns.drop i) ∧ ∃ n, wr = w6.drewN n) (fun _ _ i _ => ns.length - (intOf i).toNat)
      case atStart => exact ⟨0, 0, 0, by omega, by omega, rfl, rfl, rfl, by simpa using HRL, 0, rfl⟩
      case round =>
        obtain ⟨k, i, lf, hk, hi, rfl, rfl, rfl, hrl, n, rfl⟩ := hrel
        by_cases hlt : i < ns.length
        · obtain ⟨b2, o2, t, cc, rfl, hx, hc1, hc2⟩ := r6.at_ hlt
          have hdr : ns.drop i = (t, cc) :: ns.drop (i + 1) := by
            have := (List.getElem?_eq_some_iff.1 hx.out)
            rw [List.drop_eq_getElem_cons hlt, this.2]
          have hg0 : Hid (Grp t cc (ps.drop k) (ns.drop (i + 1)) cc) := grp_start (hrl.out.trans hdr)
          have hcc : 1 ≤ cc := (HV2.out (t, cc) (List.mem_of_getElem? hx.out)).2.2
          clear hdr hrl
          have hcc2 : cc ≤ 65536 := by
            have := tot_mem_le (fun p hp => by have := HV2.out p hp; omega) (List.mem_of_getElem? hx.out)
            simp only at this; omega
          have hpre : i = 0 ∨ (0 < i ∧ ∃ t' : Int, (t' == t) = false ∧ w6.cell? ⟨b2, o2 + (i - 1) * 2, none⟩ = some (.int .i64 t')) := by
            by_cases h0 : i = 0
            · exact .inl h0
            · right
              refine ⟨by omega, ?_⟩
              obtain ⟨b3, o3, t', c', hA, hx', hc3, _⟩ := r6.at_ (k := i - 1) (by omega)
              injection hA with hA
              injection hA with e3 e4
              subst e3 e4
              refine ⟨t', ?_, hc3⟩
              have := HAP.out.at_ hx'.out (by rw [show i - 1 + 1 = i by omega]; exact hx.out)
              simpa using this
          rcases hpre with h0 | ⟨h0, t', ht', hc0⟩
          · have d0 : decide (0 < i) = false := by simp [h0]
            clear h0
            go_wp2_with fail
            go_quiet (fail)
            go_wp2_with fail
            go_loopw [13, 14] (fun kv lv wr => ∃ (k : Nat) (lf : Int), k ≤ ps.length ∧ 0 ≤ lf ∧ lf ≤ 65536 ∧ kv = .int .i64 k ∧ lv = .int .i64 lf ∧ Hid (Grp t cc (ps.drop k) (ns.drop (i + 1)) lf) ∧ ∃ n, wr = w6.drewN n) (fun k _ _ => ps.length - (intOf k).toNat)
            case atStart => exact ⟨k, cc, hk, by omega, hcc2, rfl, rfl, hg0, _, rfl⟩
            case round =>
              clear hg0
              obtain ⟨k2, lf2, hk2, hl0, hl1, rfl, rfl, hg, n2, rfl⟩ := hrel
              by_cases hl : 0 < lf2
              · obtain ⟨y, l', e1, e2, e3⟩ := grp_more (fun p hp => HVT.out.1 p (List.mem_of_mem_drop hp)) hg.out hl
                have hk2l : k2 < ps.length := by
                  have := congrArg List.length e1
                  simp at this; omega
                have e4 : ps[k2]? = some (t, y) ∧ l' = ps.drop (k2 + 1) := by
                  rw [List.drop_eq_getElem_cons hk2l] at e1
                  injection e1 with e5 e6
                  exact ⟨by rw [List.getElem?_eq_getElem hk2l, e5], e6.symm⟩
                obtain ⟨e4, rfl⟩ := e4
                have hg' : Hid (Grp t cc (ps.drop (k2 + 1)) (ns.drop (i + 1)) (lf2 - y)) := e3
                have hy1 : 1 ≤ y := (HVT.out.1 (t, y) (List.mem_of_getElem? e4)).2.2
                obtain ⟨b5, o5, t5, y5, hA5, hx5, hc5, hc6⟩ := a6.at_ hk2l
                have hx6 := hx5.out.symm.trans e4
                injection hx6 with hx6
                injection hx6 with f1 f2
                subst f1 f2
                subst hA5
                have d3 : decide (0 < lf2) = true := by simpa using hl
                have d4 : decide (k2 < ps.length) = true := by simpa using hk2l
                clear e1 e3 e4 hg hx5
                go_wp2_with fail
                go_quiet (fail)
                go_wp2_with fail
                go_roundw
                case rel => exact ⟨k2 + 1, lf2 - y5, by omega, by omega, by omega, by go_num, rfl, hg', _, rfl⟩
                case measure => simp [intOf]; omega
              · have hl2 : lf2 = 0 := by omega
                subst hl2
                have hnx : Hid (rl (ps.drop k2) = ns.drop (i + 1)) := grp_end (fun p hp => HVT.out.1 p (List.mem_of_mem_drop hp)) hg.out
                clear hg hl
                go_wp2_with fail
                go_quiet (fail)
                go_wp2_with fail
                go_roundw
                case rel => exact ⟨k2, i + 1, 0, hk2, by omega, rfl, rfl, by go_num, hnx, _, rfl⟩
                case measure => simp [intOf]; omega
          · have d0 : decide (0 < i) = true := by simpa using h0
            have h01 : (0 : Int) < (i : Int) := by omega
            go_wp2_with fail
            go_quiet (fail)
            go_wp2_with fail
            go_loopw [13, 14] (fun kv lv wr => ∃ (k : Nat) (lf : Int), k ≤ ps.length ∧ 0 ≤ lf ∧ lf ≤ 65536 ∧ kv = .int .i64 k ∧ lv = .int .i64 lf ∧ Hid (Grp t cc (ps.drop k) (ns.drop (i + 1)) lf) ∧ ∃ n, wr = w6.drewN n) (fun k _ _ => ps.length - (intOf k).toNat)
            case atStart => exact ⟨k, cc, hk, by omega, hcc2, rfl, rfl, hg0, _, rfl⟩
            case round =>
              clear hg0
              obtain ⟨k2, lf2, hk2, hl0, hl1, rfl, rfl, hg, n2, rfl⟩ := hrel
              by_cases hl : 0 < lf2
              · obtain ⟨y, l', e1, e2, e3⟩ := grp_more (fun p hp => HVT.out.1 p (List.mem_of_mem_drop hp)) hg.out hl
                have hk2l : k2 < ps.length := by
                  have := congrArg List.length e1
                  simp at this; omega
                have e4 : ps[k2]? = some (t, y) ∧ l' = ps.drop (k2 + 1) := by
                  rw [List.drop_eq_getElem_cons hk2l] at e1
                  injection e1 with e5 e6
                  exact ⟨by rw [List.getElem?_eq_getElem hk2l, e5], e6.symm⟩
                obtain ⟨e4, rfl⟩ := e4
                have hg' : Hid (Grp t cc (ps.drop (k2 + 1)) (ns.drop (i + 1)) (lf2 - y)) := e3
                have hy1 : 1 ≤ y := (HVT.out.1 (t, y) (List.mem_of_getElem? e4)).2.2
                obtain ⟨b5, o5, t5, y5, hA5, hx5, hc5, hc6⟩ := a6.at_ hk2l
                have hx6 := hx5.out.symm.trans e4
                injection hx6 with hx6
                injection hx6 with f1 f2
                subst f1 f2
                subst hA5
                have d3 : decide (0 < lf2) = true := by simpa using hl
                have d4 : decide (k2 < ps.length) = true := by simpa using hk2l
                clear e1 e3 e4 hg hx5
                go_wp2_with fail
                go_quiet (fail)
                go_wp2_with fail
                go_roundw
                case rel => exact ⟨k2 + 1, lf2 - y5, by omega, by omega, by omega, by go_num, rfl, hg', _, rfl⟩
                case measure => simp [intOf]; omega
              · have hl2 : lf2 = 0 := by omega
                subst hl2
                have hnx : Hid (rl (ps.drop k2) = ns.drop (i + 1)) := grp_end (fun p hp => HVT.out.1 p (List.mem_of_mem_drop hp)) hg.out
                clear hg hl
                go_wp2_with fail
                go_quiet (fail)
                go_wp2_with fail
                go_roundw
                case rel => exact ⟨k2, i + 1, 0, hk2, by omega, rfl, rfl, by go_num, hnx, _, rfl⟩
                case measure => simp [intOf]; omega
        · have hin : i = ns.length := by omega
          have hkk : k = ps.length := by
            have := rl_nil_iff (hrl.out.trans (List.drop_of_length_le (by omega)))
            have := congrArg List.length this
            simp at this; omega
          subst hin hkk
          clear hlt
          go_wp2_with fail
          refine (Preemptions_any A c ps _ (a6.drewN n) (by omega)).mono ?_
          rw [HP.out]
          rintro e w7 ⟨A7, c7, rfl, hf7, ho7⟩
          have hF7 := (hF6.drewN n).trans hf7
          have r7 : Rd w7 (.int .i64) A7 c7 (preempts ns) := (Rd.of_own ho7).2
          have hprl : (preempts ns).length ≤ 30 := by
            unfold preempts
            rw [List.length_map]
            exact Nat.le_trans (List.length_filter_le _ _) (by simp; omega)
          have a7 := (a6.drewN n).fr0 hf7
          clear ho7
          generalize preempts ns = pr at *
          have hrb : pr.length ≤ 9223372036854775807 := r7.bound
          by_cases hp0 : pr.length = 0
          · have b0 : ((pr.length : Int) == 0) = true := by simp [hp0]
            have HJ := Lib.hid (HNO.out hp0)
            have HP0 := Lib.hid hp0
            clear hp0
            go_wp2_with fail
            refine (Join_any A c ps which _ a7 (by omega)).mono ?_
            rw [HJ.out]
            rintro e w8 ⟨A8, c8, rfl, hf8, _⟩
            go_wp2_with fail
            refine (runs_any _).mono ?_
            rintro e w9 ⟨rfl, hf9⟩
            go_wp2
            go_ret
            exact ⟨rfl, (hF7.trans hf8).trans hf9⟩
          · have b0 : ((pr.length : Int) == 0) = false := by rw [beq_eq_false_iff_ne]; omega
            obtain ⟨r1, hr1⟩ : ∃ r1, which.tmod (pr.length : Int) = r1 := ⟨_, rfl⟩
            have hlo := Int.tmod_lt_of_pos which (show (0 : Int) < pr.length by omega)
            have hhi := Int.lt_tmod_of_pos which (show (0 : Int) < pr.length by omega)
            rw [hr1] at hlo hhi
            have hwr : wrap64 (r1 + pr.length) = r1 + pr.length := by unfold wrap64; omega
            obtain ⟨x, hx⟩ : ∃ x : Nat, (r1 + (pr.length : Int)).tmod pr.length = x := ⟨((r1 + (pr.length : Int)).tmod pr.length).toNat, by have := Int.tmod_nonneg (a := r1 + (pr.length : Int)) pr.length (by omega); omega⟩
            have hxl := Int.tmod_lt_of_pos (r1 + (pr.length : Int)) (show (0 : Int) < pr.length by omega)
            rw [hx] at hxl
            have hxl' : x < pr.length := by omega
            obtain ⟨b7, o7, y, rfl, hy, hc7⟩ := r7.at_ hxl'
            obtain ⟨j, hj, hjl, hjv, hjt, hjs⟩ := HYES.out y (List.mem_of_getElem? hy.out)
            have HJ := Lib.hid hj
            have hje : Hid (stArr j = stArr ps) := stArr_eq hjs
            have HJV := Lib.hid hjv
            clear hj hjs hjv hxl
            go_wp2_with fail
            refine (Join_any A c ps y _ a7 (by omega)).mono ?_
            rw [HJ.out]
            rintro e w8 ⟨A8, c8, rfl, hf8, ho8⟩
            have r8 : Rp w8 A8 c8 j := (Rp.of_own ho8).2
            have a8 := a7.fr0 hf8
            have hF8 := hF7.trans hf8
            have d8 : decide (j.length < ns.length) = true := by simpa using hjl
            clear ho8 hf8 hwr hx hr1
            go_wp2_with fail
            refine (steps_any A8 c8 j _ r8 HJV.out hjt).mono ?_
            rw [hje.out]
            rintro e w9 ⟨rfl, hf9⟩
            go_wp2_with fail
            refine (steps_any A c ps _ (a8.fr0 hf9) HVT.out.1 (by have := HVT.out.2; omega)).mono ?_
            rintro e w10 ⟨rfl, hf10⟩
            go_wp2_with fail
            refine (runs_any _).mono ?_
            rintro e w11 ⟨rfl, hf11⟩
            go_wp2
            go_ret
            exact ⟨rfl, ((hF8.trans hf9).trans hf10).trans hf11⟩
    · have hN := normal_err hck
      have HN := Lib.hid hN
      have hne : (checkP 0 ps != 0) = true := by simpa using hck
      clear hN hck
      generalize checkP 0 ps = er at *
      go_enter Try.func5, Try.ntmps5
      go_wp2_with fail
      refine (refNormal_any A c ps w ha (by omega)).mono ?_
      rw [HN.out]
      rintro e w1 ⟨A1, c1, rfl, hf1, _⟩
      go_wp2_with fail
      refine (Normal_any A c ps w1 (ha.fr0 hf1) (by omega)).mono ?_
      rw [HN.out]
      rintro e w2 ⟨A2, c2, rfl, hf2, _⟩
      go_wp2_with fail
      refine (runs_any _).mono ?_
      rintro e w3 ⟨rfl, hf3⟩
      go_wp2
      go_ret
      exact ⟨rfl, (hf1.trans hf2).trans hf3⟩
end Go.Proofs.Ytjpbmbonccenfaa
