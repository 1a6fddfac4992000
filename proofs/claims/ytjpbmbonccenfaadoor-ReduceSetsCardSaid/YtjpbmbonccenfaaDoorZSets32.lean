/- Texts of this seat, one behind the other: RCnt, Awake. -/
import Derived.Test.YtjpbmbonccenfaaDoorZSets30
import Derived.Test.YtjpbmbonccenfaaDoorZSets29
import Derived.Test.YtjpbmbonccenfaaDoorZSets22
/- Counted of the reference. -/
namespace Go.Proofs.YtjpbmbonccenfaaDoor
open Go Go.RowKit
set_option linter.unusedVariables false

/-- Between two rounds. -/
def RCtInv (w : World) (ans : List Int) (n s : Nat) (full : List Int ⊕ (Res × (Nat × Kn))) (bp g : Nat) (t : Nat) (v11 : Value) (wr : World) : Prop :=
  ∃ (kept lev : List Int) (u : Nat) (kk : Kn) (A : Option Addr) (cc : Nat), v11 = .slice A kept.length cc ∧ Rd wr (.int .i64) A cc kept ∧ Stay w.heap.size wr A ∧ (∀ a, A = some a → a.block ≠ g) ∧ kept.length ≤ 256 ∧
    Hid (CInv n (lastOf s) kept lev) ∧ Hid (cntM (lastOf s) kept lev < t) ∧ Hid (full = (cntT s t kept lev).go (askS ans) (u, kk)) ∧ Hid (kk.length = u) ∧ u ≤ ans.length ∧
    PKn w.heap.size wr bp ans u kk false [] ∧ RowsOff wr bp g ∧ g < wr.heap.size ∧ LevAt wr g lev ∧ Blk wr w.heap.size 34 #[.bool false, .slice none 0 0, .slice none 0 0, .slice none 0 0] ∧ Fr [] w wr

set_option maxRecDepth 100000 in
set_option maxHeartbeats 12800000 in
theorem refCounted_any (D : Option Addr) (d : Nat) (n start : Int) (ans : List Int) (w : World) (hd : Rd w (.int .u8) D d ans) :
    Calls Tryd.prog 29 #[.int .i64 n, .int .i64 start, .slice D ans.length d] w (RetQst w (countedOf n start ans)) := by
  have hn : ∀ W : World, Rd W (.int .i64) none 0 ([] : List Int) := fun W => Rd.nil_ W _
  have hbQ : Blk (w.alloc (.cells #[.bool false, .slice none 0 0, .slice none 0 0, .slice none 0 0] 34)) w.heap.size 34 #[.bool false, .slice none 0 0, .slice none 0 0, .slice none 0 0] := Blk.new w _ _ _ rfl
  have hf0 : Fr [] w (w.alloc (.cells #[.bool false, .slice none 0 0, .slice none 0 0, .slice none 0 0] 34)) := (Fr.refl _ _).alloc _
  have hz1 := hbQ.lt
  go_enter Tryd.func29, Tryd.ntmps29
  go_wp2_with fail
  refine (beginK_any w.heap.size D d ans _ (hd.fr0 hf0) (by omega) (fun h0 x hx => hd.lt h0 x hx)).mono ?_
  rintro e w2 ⟨rfl, hf2, hp2⟩
  have hp2 : PKn w.heap.size w2 (w.heap.size + 1) ans 0 [] false [] := by simpa using hp2
  have hF2 := hf0.trans hf2
  have hB2 := hbQ.fr hf2 (by simp)
  clear hf0 hbQ hf2
  by_cases hbad : 256 < n ∨ 4096 < ans.length
  · have hR : Hid (countedOf n start ans = (qNone, 3)) := by
      show _ = _
      unfold countedOf
      by_cases h256 : 256 < n
      · rw [if_pos h256]
      · rw [if_neg h256]; unfold qOf; rw [if_pos (by omega)]
    have qc0 := hB2.cell 0 rfl
    have qc1 := hB2.cell 1 rfl
    have qc2 := hB2.cell 2 rfl
    have qc3 := hB2.cell 3 rfl
    have qd0 := hB2.frozen 0
    have qd1 := hB2.frozen 1
    have qd2 := hB2.frozen 2
    have qd3 := hB2.frozen 3
    by_cases h256 : 256 < n
    · have hd2 : decide (n > 256) = true := by simpa using h256
      clear hbad h256
      go_wp2
      refine bodyPost_ret (results_qst rfl _ _ w.heap.size rfl (hB2.four _ _ _ _)) rfl ?_
      rw [hR.out]
      exact qst_ret (r := (qNone, 3)) (Nat.le_refl _) hF2 hB2 (hn _) (hn _) (hn _)
    · have hd2 : decide (n > 256) = false := by simpa using h256
      have hd3 : decide (ans.length ≤ 4096) = false := by simp; omega
      clear hbad h256
      go_wp2
      refine bodyPost_ret (results_qst rfl _ _ w.heap.size rfl (hB2.four _ _ _ _)) rfl ?_
      rw [hR.out]
      exact qst_ret (r := (qNone, 3)) (Nat.le_refl _) hF2 hB2 (hn _) (hn _) (hn _)
  · have h256 : n ≤ 256 := by omega
    have h4' : ans.length ≤ 4096 := by omega
    have hd2 : decide (n > 256) = false := by simp; omega
    have hd3 : decide (ans.length ≤ 4096) = true := by simp; omega
    have hm : n.toNat ≤ 256 := by omega
    obtain ⟨hs1, hs2⟩ := startOf_in start
    have hmx : min (max start 1) 256 = ((startOf start : Nat) : Int) := by unfold startOf; omega
    obtain ⟨full, hfuR⟩ : ∃ f, (countT (startOf start) n.toNat).go (askS ans) (0, []) = f := ⟨_, rfl⟩
    have hR : Hid (countedOf n start ans = finT ans full) := by show _ = _; unfold countedOf; rw [if_neg (by omega), qOf_fin (by omega), hfuR]
    generalize startOf start = s at *
    have HFUR := Lib.hid hfuR
    have hl8 := last_le hs1 hs2
    have HSZ := Lib.hid (fun l (hl : l ≤ lastOf s) => sz_gt (l := l) hs1 hl)
    clear hbad hfuR
    go_wp2_with fail
    go_loopw [10] (fun v wr => ∃ l : Nat, l ≤ lastOf s ∧ v = .int .i64 l ∧ ∃ m, wr = w2.drewN m) (fun v _ => lastOf s - (intOf v).toNat)
    case atStart => exact ⟨0, Nat.zero_le _, rfl, 0, rfl⟩
    case round =>
      obtain ⟨l, hl, rfl, m0, rfl⟩ := hrel
      have hsz := HSZ.out l hl
      by_cases hlt : l < lastOf s
      · have hdl : decide (((szOf s l : Nat) : Int) > 1) = true := by simp; have := hsz.2 hlt; omega
        clear hsz
        go_wp2_with fail
        refine (size_any s l _ (by omega) (by omega)).mono ?_
        rintro e w4 ⟨rfl, n4, rfl⟩
        go_wp2_with fail
        go_roundw
        case rel => exact ⟨l + 1, by omega, by go_num, _, by first | rfl | exact World.drewN_drewN ..⟩
        case measure => simp [intOf]; omega
      · have hdl : decide (((szOf s l : Nat) : Int) > 1) = false := by simp; have := fun h => hlt (hsz.1 h); omega
        obtain rfl : l = lastOf s := by omega
        clear hsz hmx hlt HSZ
        go_wp2_with fail
        refine (size_any s (lastOf s) _ (by omega) (by omega)).mono ?_
        rintro e w4 ⟨rfl, n4, rfl⟩
        have hp4 := (hp2.drewN m0).drewN n4
        have hB4 := (hB2.drewN m0).drewN n4
        have hF4 := (hF2.drewN m0).drewN n4
        clear hp2 hB2 hF2
        generalize (w2.drewN m0).drewN n4 = W4 at *
        go_wp2_with fail
        refine (refAll_any n _ (by omega)).mono ?_
        rintro e w3 ⟨A3, c3, rfl, hf3, ho3⟩
        have hp3 := hp4.fr0 hf3
        have hB3 := hB4.fr hf3 (by simp)
        have hF3 : FrP w.heap.size w w3 := FrP.of_fr0 (hF4.trans hf3)
        have hr3 : Rd w3 (.int .i64) A3 c3 (upTo n.toNat) := (Rd.of_own ho3).2
        have hs3 : Stay w.heap.size w3 A3 := Stay.own ho3
        have hnw : ∀ a, A3 = some a → a.block < w3.heap.size := fun a ha => by subst ha; exact (ho3.lt a.block rfl).2
        have hul := Lib.hid (upTo_length n.toNat)
        have HCF := Lib.hid (cnt_first n.toNat (lastOf s))
        have HTD : Hid (countT s n.toNat = .ask (upTo n.toNat) fun v => if v = 2 then cntT s (cntM (lastOf s) (upTo n.toNat) (lev0 n.toNat) + 1) (upTo n.toNat) (lev0 n.toNat) else .ret (7, [], [])) := rfl
        clear hp4 hB4 hF4 hf3 ho3
        generalize upTo n.toNat = all at *
        have hal : all.length ≤ 256 := by rw [hul.out]; omega
        go_wp2_with fail
        refine (ask_any w.heap.size _ ans 0 [] A3 c3 all _ hp3 hr3 hs3 (by omega) (by simp)).mono ?_
        rintro e w4 h4
        unfold AskPost at h4
        rcases hq : askV ans 0 [] all with _ | ⟨v, u, kn⟩
        · rw [hq] at h4
          obtain ⟨rfl, hf4, hp4⟩ := h4
          have hR2 : Hid (countedOf n start ans = (⟨false, all, [], []⟩, 0)) := by
            show _ = _
            rw [hR.out, ← HFUR.out, HTD.out, Tr.go_none (askS_none hq)]
            rfl
          have hB4 := hf4.blkQ hB3
          have hF4 := hF3.trans hf4
          clear hq
          go_wp2_with fail
          refine (endK_any w.heap.size _ ans 0 [] true all 7 none none 0 0 [] [] _ hp4 (hn _) (hn _)).mono ?_
          rintro e w11 ⟨v11, rfl, hf11, A11, a11, B11, b11, C11, c11, rfl, hq1, hq2, hq3⟩
          have hB11 := hB4.fr hf11 (by simp)
          have qc0 := hB11.cell 0 rfl
          have qc1 := hB11.cell 1 rfl
          have qc2 := hB11.cell 2 rfl
          have qc3 := hB11.cell 3 rfl
          have qd0 := hB11.frozen 0
          have qd1 := hB11.frozen 1
          have qd2 := hB11.frozen 2
          have qd3 := hB11.frozen 3
          go_wp2
          refine bodyPost_ret (results_qst rfl _ _ w.heap.size rfl (hB11.four _ _ _ _)) rfl ?_
          rw [hR2.out]
          exact qst_ret (Nat.le_refl _) ((hF4.fr rfl).trans hf11) hB11 hq1 hq2 hq3
        · rw [hq] at h4
          obtain ⟨rfl, hf4, hp4⟩ := h4
          have hfl : full = (if v = 2 then cntT s (cntM (lastOf s) all (lev0 n.toNat) + 1) all (lev0 n.toNat) else .ret (7, [], [])).go (askS ans) (u, kn) := by
            rw [← HFUR.out, HTD.out, Tr.go_some (askS_some hq)]
          obtain ⟨hkl, hul2⟩ := askV_len hq rfl (Nat.zero_le _)
          have hB4 := hf4.blkQ hB3
          have hF4 := hF3.trans hf4
          have hr4 := hr3.frp hs3 hf4
          have hs4 := hs3.frp hf4
          have hz34 := hf4.size
          clear hq hf4 hp3 hB3 hF3 hr3 hs3 HTD HFUR
          by_cases hv : v = 2
          · have hb2 : (v != 2) = false := by simp [hv]
            rw [if_pos hv] at hfl
            have HKL := Lib.hid hkl
            have HFL := Lib.hid hfl
            clear hv hfl hkl
            go_wp2_with (at_make; refine wpList_makeN rfl _ _ _ rfl elemInts rfl all.length rfl rfl (by omega) ?_; intro w5 hown5 hg5)
            have hfg5 : Fr [] w4 w5 := (Fr.refl _ w4).grown hg5 (by simp)
            have hI : RCtInv w ans n.toNat s full (w.heap.size + 1) w4.heap.size (cntM (lastOf s) all (lev0 n.toNat) + 1) (.slice A3 all.length c3) w5 := by
              refine ⟨all, lev0 n.toNat, u, kn, A3, c3, rfl, hr4.fr0 hfg5, hs4.frp (FrP.of_fr0 hfg5), fun a ha => ?_, hal, HCF, Nat.lt_succ_self _, HFL, HKL, hul2, hp4.fr0 hfg5, (RowsOff.new hp4 (Nat.le_refl _)).fr0 hp4 hfg5, (hown5.lt _ rfl).2, fun h0 => ?_, hB4.fr hfg5 (by simp), (hF4.fr rfl).trans hfg5⟩
              · have := hnw a ha; omega
              · have h1 : 0 < all.length := by rw [hul.out]; simpa [lev0] using h0
                have := own_blk hown5 h1
                rw [hul.out] at this
                simpa [lev0] using this
            have hgz : w.heap.size + 1 < w4.heap.size := by
              obtain ⟨A', c', S', T', D', d', rw', hh', _⟩ := hp4.ex
              exact hh'.lt
            have hnl := Nat.le_of_eq hul.out
            have hnl2 := Nat.le_of_eq hul.out.symm
            clear hB4 hF4 hr4 hs4 hp4 hown5 hg5 hfg5 HCF HFL HKL hul hnw
            generalize w4.heap.size = g at *
            go_wp2_with fail
            go_loopg [11] (cntM (lastOf s) all (lev0 n.toNat) + 1) (RCtInv w ans n.toNat s full (w.heap.size + 1) g)
            case atStart => exact hI
            case round =>
              clear hI
              obtain ⟨kept, lev, u, kk, A, cc, rfl, hr, hs, hag, hkl, hci, hcm, hfu, hkk, hu, hp, hro, hgl, hlv, hB, hF⟩ := hrel
              obtain ⟨t, rfl⟩ : ∃ t, gk = t + 1 := ⟨gk - 1, by have := hcm.out; omega⟩
              have hln := Nat.le_of_eq hci.out.len
              have hln2 := Nat.le_of_eq hci.out.len.symm
              go_wp2_with fail
              go_loopw [13, 14] (fun v i wr' => ∃ (j : Nat) (low : Int), j ≤ kept.length ∧ i = .int .i64 j ∧ v = .int .i64 low ∧ Hid (low = lowOf (lastOf s) lev (kept.take j)) ∧ 0 ≤ low ∧ low ≤ lastOf s + 1 ∧ wr' = wr) (fun _ i _ => kept.length - (intOf i).toNat)
              case atStart => exact ⟨0, (lastOf s : Int) + 1, Nat.zero_le _, rfl, by go_num, rfl, by omega, by omega, rfl⟩
              case round =>
                obtain ⟨j, low, hj, rfl, rfl, hlow, hlw0, hlw1, rfl⟩ := hrel
                by_cases hlt : j < kept.length
                · obtain ⟨b0, o0, x, rfl, hx, hc⟩ := hr.at_ hlt
                  have hxm := List.mem_of_getElem? hx.out
                  have hxr := hci.out.in_ hxm
                  have hxb := hci.out.lo x hxm
                  obtain ⟨xn, rfl⟩ : ∃ xn : Nat, x = xn := ⟨x.toNat, by omega⟩
                  have hxl : xn < lev.length := by omega
                  have hxg : xn < all.length := by omega
                  have k1 := hlv.cell hxl
                  have HNX := Lib.hid (low_next (last := lastOf s) (lev := lev) hx)
                  generalize hle : levOf lev (xn : Int) = lv at *
                  clear hle hxm
                  go_wp2_with fail
                  go_roundw
                  case rel => exact ⟨j + 1, min low lv, by omega, by go_num, by go_num, by show _ = _; rw [HNX.out, ← hlow.out], by omega, by omega, by first | rfl | trivial⟩
                  case measure => simp [intOf]; omega
                · have HLOW : Hid (low = lowOf (lastOf s) lev kept) := by show _ = _; rw [hlow.out, low_all (by omega)]
                  obtain ⟨lw, rfl⟩ : ∃ lw : Nat, low = lw := ⟨low.toNat, by omega⟩
                  clear hlow
                  by_cases hgt : (lastOf s : Int) < (lw : Int)
                  · have hdg : lastOf s < lw := by omega
                    have hR2 : Hid (countedOf n start ans = endOf false [] 0 (decide (u < ans.length)) kept []) := by
                      show _ = _
                      rw [hR.out, hfu.out, cnt_end (by rw [← HLOW.out]; exact hgt)]
                      rfl
                    have hFP : FrP w.heap.size w wr := FrP.of_fr0 hF
                    clear hgt hfu HLOW
                    go_wp2_with fail
                    refine (endK_any w.heap.size _ ans u kk false [] 0 A none cc 0 kept [] _ hp hr (hn _)).mono ?_
                    rintro e w11 ⟨v11, rfl, hf11, A11, a11, B11, b11, C11, c11, rfl, hq1, hq2, hq3⟩
                    have hB11 := hB.fr hf11 (by simp)
                    have qc0 := hB11.cell 0 rfl
                    have qc1 := hB11.cell 1 rfl
                    have qc2 := hB11.cell 2 rfl
                    have qc3 := hB11.cell 3 rfl
                    have qd0 := hB11.frozen 0
                    have qd1 := hB11.frozen 1
                    have qd2 := hB11.frozen 2
                    have qd3 := hB11.frozen 3
                    go_wp2
                    refine bodyPost_ret (results_qst rfl _ _ w.heap.size rfl (hB11.four _ _ _ _)) rfl ?_
                    rw [hR2.out]
                    exact qst_ret (Nat.le_refl _) ((hFP.fr rfl).trans hf11) hB11 hq1 hq2 hq3
                  · have hdg : ¬ lastOf s < lw := by omega
                    have HGT := Lib.hid hgt
                    clear hgt
                    go_wp2_with fail
                    go_loopw [15, 16] (fun v i wr' => ∃ (j : Nat) (G : List Int) (A1 : Option Addr) (c1 : Nat), j ≤ kept.length ∧ i = .int .i64 j ∧ v = .slice A1 G.length c1 ∧ Hid (G = grpOf s lev (kept.take j) lw) ∧ wr'.ownsRow wr.heap.size 3 1 (.slice A1 G.length c1) G.length (G.map (.int .i64)) ∧ Fr [] wr wr') (fun _ i _ => kept.length - (intOf i).toNat)
                    case atStart => exact ⟨0, [], none, 0, Nat.zero_le _, rfl, rfl, by show _ = _; rw [grp_zero], World.ownsRow_nil _ _ _ _, Fr.refl _ _⟩
                    case round =>
                      obtain ⟨j, G, A1, c1, hj, rfl, rfl, hG, hown, hfg⟩ := hrel
                      have hGl0 : G.length ≤ 256 := by rw [hG.out]; exact Nat.le_trans (grp_sub.length_le) (by rw [List.length_take]; omega)
                      by_cases hlt : j < kept.length
                      · by_cases hsz : G.length < szOf s lw
                        · obtain ⟨b0, o0, x, rfl, hx, hc⟩ := (hr.fr0 hfg).at_ hlt
                          have hxm := List.mem_of_getElem? hx.out
                          have hxr := hci.out.in_ hxm
                          obtain ⟨xn, rfl⟩ : ∃ xn : Nat, x = xn := ⟨x.toNat, by omega⟩
                          have hxl : xn < lev.length := by omega
                          have hxg : xn < all.length := by omega
                          have k1 := (hlv.fr hfg (by simp)).cell hxl
                          clear hxm
                          by_cases hle : levOf lev (xn : Int) = lw
                          · have HNX : Hid (grpOf s lev (kept.take (j + 1)) lw = G ++ [(xn : Int)]) := by show _ = _; rw [grp_hit hx hle (by rw [← hG.out]; exact hsz), ← hG.out]
                            rw [hle] at k1
                            clear hle
                            go_wp2_with fail
                            refine (size_any s lw _ (by omega) (by omega)).mono ?_
                            rintro e w5 ⟨rfl, n5, rfl⟩
                            have hown := own_drewN hown n5
                            have hfg := hfg.drewN n5
                            have hc : (wr.drewN n5).cell? _ = _ := hc
                            have k1 : (wr.drewN n5).cell? _ = _ := k1
                            have hfz := hfg.size
                            generalize wr.drewN n5 = W5 at *
                            go_wp2_with (at_builtin; refine wpList_append_rd rfl (.tmp 103) (.tmp 108) _ rfl elemInts (.slice A1 G.length c1) (G.map (.int .i64)) rfl (hown.alloc _) (some ⟨W5.heap.size, 0, none⟩) 1 [(xn : Int)] (.int .i64) rfl (Rd.one W5 _ _ _) one_i64 (by simp; omega) (by simp; omega) ?_; intro A2 c2 w6 hown2 hg2 hat2)
                            go_roundw
                            case rel => exact ⟨j + 1, G ++ [(xn : Int)], A2, c2, by omega, by go_num, by simp, by show _ = _; rw [HNX.out], by simpa using hown2, (hfg.alloc _).app (hown.alloc _) (Nat.le_refl _) hg2⟩
                            case measure => simp [intOf]; omega
                          · have HNX : Hid (grpOf s lev (kept.take (j + 1)) lw = G) := by show _ = _; rw [grp_miss hx hle, ← hG.out]
                            have hdl : (levOf lev (xn : Int) == (lw : Int)) = false := by simpa using hle
                            have hdl2 : decide (levOf lev (xn : Int) = (lw : Int)) = false := by simpa using hle
                            generalize levOf lev (xn : Int) = lv at *
                            clear hle
                            go_wp2_with fail
                            refine (size_any s lw _ (by omega) (by omega)).mono ?_
                            rintro e w5 ⟨rfl, n5, rfl⟩
                            have hown := own_drewN hown n5
                            have hfg := hfg.drewN n5
                            have hc : (wr.drewN n5).cell? _ = _ := hc
                            have k1 : (wr.drewN n5).cell? _ = _ := k1
                            generalize wr.drewN n5 = W5 at *
                            go_wp2_with fail
                            go_roundw
                            case rel => exact ⟨j + 1, G, A1, c1, by omega, by go_num, rfl, by show _ = _; rw [HNX.out], hown, hfg⟩
                            case measure => simp [intOf]; omega
                        · have GEQ : grpOf s lev (kept.take j) lw = grpOf s lev kept lw := grp_full (by rw [← hG.out]; exact hsz)
                          go_wp2_with fail
                          refine (size_any s lw _ (by omega) (by omega)).mono ?_
                          rintro e w5 ⟨rfl, n5, rfl⟩
                          have hown := own_drewN hown n5
                          have hfg := hfg.drewN n5
                          generalize wr.drewN n5 = WX at *
                          have HGF : Hid (G = grpOf s lev kept lw) := by show _ = _; rw [hG.out]; exact GEQ
                          have hst0 := cnt_step hci.out hs1 hs2 hkl (by rw [← HLOW.out]; have := HGT.out; omega)
                          rw [← HLOW.out, ← HGF.out] at hst0
                          have hask := cnt_ask (t := t) HLOW.out.symm (by have := HGT.out; omega) HGF.out.symm rfl
                          rw [hask] at hfu
                          have HST := Lib.hid hst0
                          have HFU := hfu
                          have hrG : Rd _ (.int .i64) A1 c1 G := (Rd.of_own hown).2
                          have hsG : Stay w.heap.size _ A1 := Stay.own hown
                          have hnG : ∀ a, A1 = some a → a.block ≠ g := fun a ha => by subst ha; have := (hown.lt a.block rfl).1; omega
                          have hp4 := hp.fr0 hfg
                          have hro4 := hro.fr0 hp hfg
                          have hlv4 := hlv.fr hfg (by simp)
                          have hB4 := hB.fr hfg (by simp)
                          have hF4 := hF.trans hfg
                          have hr4 := hr.fr0 hfg
                          have hGl := hst0.sub.length_le
                          have hz4 := hfg.size
                          clear hask hst0 hown hp hro hlv hB hF hr hG hfu
                          go_wp2_with fail
                          refine (Minus_any A A1 cc c1 kept G _ hr4 hrG (by omega)).mono ?_
                          simp only [RetOwn, List.length_map]
                          rintro e w6 ⟨A6, c6, rfl, hf6, ho6⟩
                          generalize hRR : minus kept G = R at *
                          have HRR := Lib.hid hRR
                          have hRl : R.length ≤ kept.length := by rw [← hRR]; exact minus_le _ _
                          clear hRR
                          have hp6 := hp4.fr0 hf6
                          have hro6 := hro4.fr0 hp4 hf6
                          have hlv6 := hlv4.fr hf6 (by simp)
                          have hB6 := hB4.fr hf6 (by simp)
                          have hF6 : FrP w.heap.size w w6 := FrP.of_fr0 (hF4.trans hf6)
                          have hr6 := hr4.fr0 hf6
                          have hs6 := hs.frp (FrP.of_fr0 (hfg.trans hf6))
                          have hrG6 := hrG.fr0 hf6
                          have hsG6 := hsG.frp (FrP.of_fr0 hf6)
                          have hrR : Rd w6 (.int .i64) A6 c6 R := (Rd.of_own ho6).2
                          have hsR : Stay w.heap.size w6 A6 := Stay.own ho6
                          have hnR : ∀ a, A6 = some a → a.block ≠ g := fun a ha => by subst ha; have := (ho6.lt a.block rfl).1; omega
                          have hz6 := hf6.size
                          clear hp4 hro4 hlv4 hB4 hF4 hr4 hrG hsG hf6 ho6 hs hfg
                          go_wp2_with fail
                          refine (ask_off w.heap.size _ ans u kk A6 c6 R _ hp6 hrR hsR (by omega) (by rw [hkk.out]; omega)).mono ?_
                          rintro e w8 ⟨h8, _, hkr⟩
                          have hro8 := hkr g (by omega) hro6
                          clear hkr hro6
                          unfold AskPost at h8
                          rcases hq : askV ans u kk R with _ | ⟨v2, u2, kn2⟩
                          · rw [hq] at h8
                            obtain ⟨rfl, hf8, hp8⟩ := h8
                            have hR2 : Hid (countedOf n start ans = (⟨false, R, [], []⟩, 0)) := by
                              show _ = _
                              rw [hR.out, HFU.out, Tr.go_none (askS_none hq)]
                              rfl
                            have hB8 := hf8.blkQ hB6
                            have hF8 := hF6.trans hf8
                            have s4 := hp8.stopCell
                            clear hq HFU HST HGF HLOW
                            go_wp2_with fail
                            refine (endK_any w.heap.size _ ans u kk true R 0 none none 0 0 [] [] _ hp8 (hn _) (hn _)).mono ?_
                            rintro e w11 ⟨v11, rfl, hf11, A11, a11, B11, b11, C11, c11, rfl, hq1, hq2, hq3⟩
                            have hB11 := hB8.fr hf11 (by simp)
                            have qc0 := hB11.cell 0 rfl
                            have qc1 := hB11.cell 1 rfl
                            have qc2 := hB11.cell 2 rfl
                            have qc3 := hB11.cell 3 rfl
                            have qd0 := hB11.frozen 0
                            have qd1 := hB11.frozen 1
                            have qd2 := hB11.frozen 2
                            have qd3 := hB11.frozen 3
                            go_wp2
                            refine bodyPost_ret (results_qst rfl _ _ w.heap.size rfl (hB11.four _ _ _ _)) rfl ?_
                            rw [hR2.out]
                            exact qst_ret (Nat.le_refl _) ((hF8.fr rfl).trans hf11) hB11 hq1 hq2 hq3
                          · rw [hq] at h8
                            obtain ⟨rfl, hf8, hp8⟩ := h8
                            have hB8 := hf8.blkQ hB6
                            have hF8 := hF6.trans hf8
                            have s4 := hp8.stopCell
                            have hlv8 := hlv6.frp hf8
                            have hr8 := hr6.frp hs6 hf8
                            have hs8 := hs6.frp hf8
                            have hrG8 := hrG6.frp hsG6 hf8
                            have hrR8 := hrR.frp hsR hf8
                            have hsR8 := hsR.frp hf8
                            have hfl : full = (if v2 = 2 then cntT s t R (capL (lastOf s) lev R) else cntT s t kept (bumpL lev G)).go (askS ans) (u2, kn2) := by
                              rw [HFU.out, Tr.go_some (askS_some hq)]
                            obtain ⟨hkl2, hul3⟩ := askV_len hq hkk.out hu
                            have HKL2 := Lib.hid hkl2
                            have hF9 : Fr [] w w8 := hF8.fr rfl
                            have hz8 := hf8.size
                            clear hq hkl2 hf8 HFU hp6 hlv6 hB6 hF6 hr6 hrG6 hsG6 hrR hsR hF8 hs6
                            by_cases hv2 : v2 = 2
                            · have hb3 : (v2 != 2) = false := by simp [hv2]
                              rw [if_pos hv2] at hfl
                              have HFL := Lib.hid hfl
                              have HCI : Hid (CInv n.toNat (lastOf s) R (capL (lastOf s) lev R)) := by show CInv _ _ _ _; have := HST.out.cap.1; rw [HRR.out] at this; exact this
                              have HCM : Hid (cntM (lastOf s) R (capL (lastOf s) lev R) < t) := by show _ < _; have h1 := HST.out.cap.2; have h2 := hcm.out; rw [HRR.out] at h1; omega
                              have hsubR : ∀ x ∈ R, x ∈ kept := fun x hx => by rw [← HRR.out] at hx; exact (mem_minus.1 hx).1
                              have HIN : Hid (∀ x ∈ R, 0 ≤ x ∧ x < lev.length) := fun x hx => hci.out.in_ (hsubR x hx)
                              clear hsubR
                              have HNN : Hid (∀ (j : Nat), (capL (lastOf s) lev (R.take j)).length = lev.length) := fun j => capL_length _ _
                              have hln := Nat.le_of_eq hci.out.len
                              have hln2 := Nat.le_of_eq hci.out.len.symm
                              clear hfl hv2 HGF HLOW hrG8 hr8 hs8 hci hcm HST HRR
                              go_wp2_with fail
                              go_loopw [20] (fun i wr' => ∃ j : Nat, j ≤ R.length ∧ i = .int .i64 j ∧ LevAt wr' g (capL (lastOf s) lev (R.take j)) ∧ Fr [g] w8 wr' ∧ PKn w.heap.size wr' (w.heap.size + 1) ans u2 kn2 false [] ∧ RowsOff wr' (w.heap.size + 1) g) (fun i _ => R.length - (intOf i).toNat)
                              case atStart => exact ⟨0, Nat.zero_le _, rfl, by rw [cap_zero]; exact hlv8, Fr.refl _ _, hp8, hro8⟩
                              case round =>
                                clear hlv8 hp8 hro8
                                obtain ⟨j, hj, rfl, hlv, hfj, hp, hro⟩ := hrel
                                by_cases hlt : j < R.length
                                · obtain ⟨b0, o0, x, rfl, hx, hc⟩ := (hrR8.fr hfj (fun h0 a ha => by simpa using hnR a ha)).at_ hlt
                                  have hxr := HIN.out x (List.mem_of_getElem? hx.out)
                                  obtain ⟨xn, rfl⟩ : ∃ xn : Nat, x = xn := ⟨x.toNat, by omega⟩
                                  have hxl : xn < (capL (lastOf s) lev (R.take j)).length := by rw [HNN.out]; omega
                                  have hb0 := hlv (by omega)
                                  have k1 := hlv.cell hxl
                                  have k2 := hlv.frozen hxl
                                  have HPP := Lib.hid (fun v => PKn.put (i := xn) (v := v) hp hb0 hro (by omega))
                                  have HLS := Lib.hid (fun v => hlv.set hxl v)
                                  have HNX := Lib.hid (cap_next (last := lastOf s) (lev := lev) hx)
                                  have hne : b0 ≠ g := hnR _ rfl
                                  have hxg : xn < all.length := by omega
                                  clear hp hro hlv hb0 hxl
                                  generalize levOf (capL (lastOf s) lev (R.take j)) xn = lv at *
                                  go_wp2_with fail
                                  go_region_with fail
                                  all_goals
                                    go_wp2_with fail
                                    go_roundw
                                    case rel => exact ⟨j + 1, by omega, by go_num, by rw [HNX.out]; exact HLS.out _, (hfj.setCell (p := ⟨g, xn, none⟩) (.inl (by simp)) _).drew, (HPP.out _).1.fr0 ((Fr.refl _ _).drew), (HPP.out _).2⟩
                                    case measure => simp [intOf]; omega
                                · rw [cap_all (by omega)] at hlv
                                  have hF10 := hF9.trans2 hfj (by simp; omega)
                                  have hB10 := hB8.fr hfj (by simp; omega)
                                  have hrR10 := hrR8.fr hfj (fun h0 a ha => by simpa using hnR a ha)
                                  have hsR10 := hsR8.fr hfj (fun a ha => by simpa using hnR a ha)
                                  go_wp2_with fail
                                  go_roundg t
                                  case measure => omega
                                  case rel => exact ⟨R, _, u2, kn2, A6, c6, rfl, hrR10, hsR10, hnR, by omega, HCI, HCM, HFL, HKL2, hul3, hp, hro, by have := hfj.size; omega, hlv, hB10, hF10⟩
                            · have hb3 : (v2 != 2) = true := by simpa using hv2
                              rw [if_neg hv2] at hfl
                              have HFL := Lib.hid hfl
                              have HCI : Hid (CInv n.toNat (lastOf s) kept (bumpL lev G)) := HST.out.bump.1
                              have HCM : Hid (cntM (lastOf s) kept (bumpL lev G) < t) := by show _ < _; have h1 := HST.out.bump.2; have h2 := hcm.out; omega
                              have hgn := (set_nodup hci.out.set).sublist HST.out.sub
                              have HIN : Hid (∀ x ∈ G, 0 ≤ x ∧ x < lev.length) := fun x hx => hci.out.in_ (HST.out.sub.subset hx)
                              have HNN : Hid (∀ (j : Nat), (bumpL lev (G.take j)).length = lev.length) := fun j => bumpL_length _ _
                              have HBB : Hid (∀ (j : Nat) (x : Int), x ∈ G → 0 ≤ levOf (bumpL lev (G.take j)) x ∧ levOf (bumpL lev (G.take j)) x ≤ 20) := fun j x hx => by
                                have h1 := hci.out.lo x (HST.out.sub.subset hx)
                                rw [levOf_bump _ _ (fun y hy => HIN.out y (List.mem_of_mem_take hy)) (hgn.sublist (List.take_sublist _ _)) x (HIN.out x hx).1]
                                split <;> omega
                              have hln := Nat.le_of_eq hci.out.len
                              have hln2 := Nat.le_of_eq hci.out.len.symm
                              clear hfl hv2 HGF HLOW hrR8 hsR8 hci hcm HST HRR hgn
                              go_wp2_with fail
                              go_loopw [19] (fun i wr' => ∃ j : Nat, j ≤ G.length ∧ i = .int .i64 j ∧ LevAt wr' g (bumpL lev (G.take j)) ∧ Fr [g] w8 wr' ∧ PKn w.heap.size wr' (w.heap.size + 1) ans u2 kn2 false [] ∧ RowsOff wr' (w.heap.size + 1) g) (fun i _ => G.length - (intOf i).toNat)
                              case atStart => exact ⟨0, Nat.zero_le _, rfl, by rw [bump_zero]; exact hlv8, Fr.refl _ _, hp8, hro8⟩
                              case round =>
                                clear hlv8 hp8 hro8
                                obtain ⟨j, hj, rfl, hlv, hfj, hp, hro⟩ := hrel
                                by_cases hlt : j < G.length
                                · obtain ⟨b0, o0, x, rfl, hx, hc⟩ := (hrG8.fr hfj (fun h0 a ha => by simpa using hnG a ha)).at_ hlt
                                  have hxm := List.mem_of_getElem? hx.out
                                  have hxr := HIN.out x hxm
                                  have hxb := HBB.out j x hxm
                                  obtain ⟨xn, rfl⟩ : ∃ xn : Nat, x = xn := ⟨x.toNat, by omega⟩
                                  have hxl : xn < (bumpL lev (G.take j)).length := by rw [HNN.out]; omega
                                  have hb0 := hlv (by omega)
                                  have k1 := hlv.cell hxl
                                  have k2 := hlv.frozen hxl
                                  have HPP := Lib.hid (fun v => PKn.put (i := xn) (v := v) hp hb0 hro (by omega))
                                  have HLS := Lib.hid (fun v => hlv.set hxl v)
                                  have HNX := Lib.hid (bump_next (lev := lev) hx)
                                  have hne : b0 ≠ g := hnG _ rfl
                                  have hxg : xn < all.length := by omega
                                  clear hp hro hlv hb0 hxl hxm
                                  generalize levOf (bumpL lev (G.take j)) xn = lv at *
                                  go_wp2_with fail
                                  go_roundw
                                  case rel => exact ⟨j + 1, by omega, by go_num, by rw [HNX.out]; exact HLS.out _, hfj.setCell (.inl (by simp)) _, (HPP.out _).1, (HPP.out _).2⟩
                                  case measure => simp [intOf]; omega
                                · rw [bump_all (by omega)] at hlv
                                  have hF10 := hF9.trans2 hfj (by simp; omega)
                                  have hB10 := hB8.fr hfj (by simp; omega)
                                  have hr10 := hr8.fr hfj (fun h0 a ha => by simpa using hag a ha)
                                  have hs10 := hs8.fr hfj (fun a ha => by simpa using hag a ha)
                                  go_wp2_with fail
                                  go_roundg t
                                  case measure => omega
                                  case rel => exact ⟨kept, _, u2, kn2, A, cc, rfl, hr10, hs10, hag, hkl, HCI, HCM, HFL, HKL2, hul3, hp, hro, by have := hfj.size; omega, hlv, hB10, hF10⟩
                      · have GEQ : grpOf s lev (kept.take j) lw = grpOf s lev kept lw := grp_all (by omega)
                        have HGF : Hid (G = grpOf s lev kept lw) := by show _ = _; rw [hG.out]; exact GEQ
                        have hst0 := cnt_step hci.out hs1 hs2 hkl (by rw [← HLOW.out]; have := HGT.out; omega)
                        rw [← HLOW.out, ← HGF.out] at hst0
                        have hask := cnt_ask (t := t) HLOW.out.symm (by have := HGT.out; omega) HGF.out.symm rfl
                        rw [hask] at hfu
                        have HST := Lib.hid hst0
                        have HFU := hfu
                        have hrG : Rd _ (.int .i64) A1 c1 G := (Rd.of_own hown).2
                        have hsG : Stay w.heap.size _ A1 := Stay.own hown
                        have hnG : ∀ a, A1 = some a → a.block ≠ g := fun a ha => by subst ha; have := (hown.lt a.block rfl).1; omega
                        have hp4 := hp.fr0 hfg
                        have hro4 := hro.fr0 hp hfg
                        have hlv4 := hlv.fr hfg (by simp)
                        have hB4 := hB.fr hfg (by simp)
                        have hF4 := hF.trans hfg
                        have hr4 := hr.fr0 hfg
                        have hGl := hst0.sub.length_le
                        have hz4 := hfg.size
                        clear hask hst0 hown hp hro hlv hB hF hr hG hfu
                        go_wp2_with fail
                        refine (Minus_any A A1 cc c1 kept G _ hr4 hrG (by omega)).mono ?_
                        simp only [RetOwn, List.length_map]
                        rintro e w6 ⟨A6, c6, rfl, hf6, ho6⟩
                        generalize hRR : minus kept G = R at *
                        have HRR := Lib.hid hRR
                        have hRl : R.length ≤ kept.length := by rw [← hRR]; exact minus_le _ _
                        clear hRR
                        have hp6 := hp4.fr0 hf6
                        have hro6 := hro4.fr0 hp4 hf6
                        have hlv6 := hlv4.fr hf6 (by simp)
                        have hB6 := hB4.fr hf6 (by simp)
                        have hF6 : FrP w.heap.size w w6 := FrP.of_fr0 (hF4.trans hf6)
                        have hr6 := hr4.fr0 hf6
                        have hs6 := hs.frp (FrP.of_fr0 (hfg.trans hf6))
                        have hrG6 := hrG.fr0 hf6
                        have hsG6 := hsG.frp (FrP.of_fr0 hf6)
                        have hrR : Rd w6 (.int .i64) A6 c6 R := (Rd.of_own ho6).2
                        have hsR : Stay w.heap.size w6 A6 := Stay.own ho6
                        have hnR : ∀ a, A6 = some a → a.block ≠ g := fun a ha => by subst ha; have := (ho6.lt a.block rfl).1; omega
                        have hz6 := hf6.size
                        clear hp4 hro4 hlv4 hB4 hF4 hr4 hrG hsG hf6 ho6 hs hfg
                        go_wp2_with fail
                        refine (ask_off w.heap.size _ ans u kk A6 c6 R _ hp6 hrR hsR (by omega) (by rw [hkk.out]; omega)).mono ?_
                        rintro e w8 ⟨h8, _, hkr⟩
                        have hro8 := hkr g (by omega) hro6
                        clear hkr hro6
                        unfold AskPost at h8
                        rcases hq : askV ans u kk R with _ | ⟨v2, u2, kn2⟩
                        · rw [hq] at h8
                          obtain ⟨rfl, hf8, hp8⟩ := h8
                          have hR2 : Hid (countedOf n start ans = (⟨false, R, [], []⟩, 0)) := by
                            show _ = _
                            rw [hR.out, HFU.out, Tr.go_none (askS_none hq)]
                            rfl
                          have hB8 := hf8.blkQ hB6
                          have hF8 := hF6.trans hf8
                          have s4 := hp8.stopCell
                          clear hq HFU HST HGF HLOW
                          go_wp2_with fail
                          refine (endK_any w.heap.size _ ans u kk true R 0 none none 0 0 [] [] _ hp8 (hn _) (hn _)).mono ?_
                          rintro e w11 ⟨v11, rfl, hf11, A11, a11, B11, b11, C11, c11, rfl, hq1, hq2, hq3⟩
                          have hB11 := hB8.fr hf11 (by simp)
                          have qc0 := hB11.cell 0 rfl
                          have qc1 := hB11.cell 1 rfl
                          have qc2 := hB11.cell 2 rfl
                          have qc3 := hB11.cell 3 rfl
                          have qd0 := hB11.frozen 0
                          have qd1 := hB11.frozen 1
                          have qd2 := hB11.frozen 2
                          have qd3 := hB11.frozen 3
                          go_wp2
                          refine bodyPost_ret (results_qst rfl _ _ w.heap.size rfl (hB11.four _ _ _ _)) rfl ?_
                          rw [hR2.out]
                          exact qst_ret (Nat.le_refl _) ((hF8.fr rfl).trans hf11) hB11 hq1 hq2 hq3
                        · rw [hq] at h8
                          obtain ⟨rfl, hf8, hp8⟩ := h8
                          have hB8 := hf8.blkQ hB6
                          have hF8 := hF6.trans hf8
                          have s4 := hp8.stopCell
                          have hlv8 := hlv6.frp hf8
                          have hr8 := hr6.frp hs6 hf8
                          have hs8 := hs6.frp hf8
                          have hrG8 := hrG6.frp hsG6 hf8
                          have hrR8 := hrR.frp hsR hf8
                          have hsR8 := hsR.frp hf8
                          have hfl : full = (if v2 = 2 then cntT s t R (capL (lastOf s) lev R) else cntT s t kept (bumpL lev G)).go (askS ans) (u2, kn2) := by
                            rw [HFU.out, Tr.go_some (askS_some hq)]
                          obtain ⟨hkl2, hul3⟩ := askV_len hq hkk.out hu
                          have HKL2 := Lib.hid hkl2
                          have hF9 : Fr [] w w8 := hF8.fr rfl
                          have hz8 := hf8.size
                          clear hq hkl2 hf8 HFU hp6 hlv6 hB6 hF6 hr6 hrG6 hsG6 hrR hsR hF8 hs6
                          by_cases hv2 : v2 = 2
                          · have hb3 : (v2 != 2) = false := by simp [hv2]
                            rw [if_pos hv2] at hfl
                            have HFL := Lib.hid hfl
                            have HCI : Hid (CInv n.toNat (lastOf s) R (capL (lastOf s) lev R)) := by show CInv _ _ _ _; have := HST.out.cap.1; rw [HRR.out] at this; exact this
                            have HCM : Hid (cntM (lastOf s) R (capL (lastOf s) lev R) < t) := by show _ < _; have h1 := HST.out.cap.2; have h2 := hcm.out; rw [HRR.out] at h1; omega
                            have hsubR : ∀ x ∈ R, x ∈ kept := fun x hx => by rw [← HRR.out] at hx; exact (mem_minus.1 hx).1
                            have HIN : Hid (∀ x ∈ R, 0 ≤ x ∧ x < lev.length) := fun x hx => hci.out.in_ (hsubR x hx)
                            clear hsubR
                            have HNN : Hid (∀ (j : Nat), (capL (lastOf s) lev (R.take j)).length = lev.length) := fun j => capL_length _ _
                            have hln := Nat.le_of_eq hci.out.len
                            have hln2 := Nat.le_of_eq hci.out.len.symm
                            clear hfl hv2 HGF HLOW hrG8 hr8 hs8 hci hcm HST HRR
                            go_wp2_with fail
                            go_loopw [20] (fun i wr' => ∃ j : Nat, j ≤ R.length ∧ i = .int .i64 j ∧ LevAt wr' g (capL (lastOf s) lev (R.take j)) ∧ Fr [g] w8 wr' ∧ PKn w.heap.size wr' (w.heap.size + 1) ans u2 kn2 false [] ∧ RowsOff wr' (w.heap.size + 1) g) (fun i _ => R.length - (intOf i).toNat)
                            case atStart => exact ⟨0, Nat.zero_le _, rfl, by rw [cap_zero]; exact hlv8, Fr.refl _ _, hp8, hro8⟩
                            case round =>
                              clear hlv8 hp8 hro8
                              obtain ⟨j, hj, rfl, hlv, hfj, hp, hro⟩ := hrel
                              by_cases hlt : j < R.length
                              · obtain ⟨b0, o0, x, rfl, hx, hc⟩ := (hrR8.fr hfj (fun h0 a ha => by simpa using hnR a ha)).at_ hlt
                                have hxr := HIN.out x (List.mem_of_getElem? hx.out)
                                obtain ⟨xn, rfl⟩ : ∃ xn : Nat, x = xn := ⟨x.toNat, by omega⟩
                                have hxl : xn < (capL (lastOf s) lev (R.take j)).length := by rw [HNN.out]; omega
                                have hb0 := hlv (by omega)
                                have k1 := hlv.cell hxl
                                have k2 := hlv.frozen hxl
                                have HPP := Lib.hid (fun v => PKn.put (i := xn) (v := v) hp hb0 hro (by omega))
                                have HLS := Lib.hid (fun v => hlv.set hxl v)
                                have HNX := Lib.hid (cap_next (last := lastOf s) (lev := lev) hx)
                                have hne : b0 ≠ g := hnR _ rfl
                                have hxg : xn < all.length := by omega
                                clear hp hro hlv hb0 hxl
                                generalize levOf (capL (lastOf s) lev (R.take j)) xn = lv at *
                                go_wp2_with fail
                                go_region_with fail
                                all_goals
                                  go_wp2_with fail
                                  go_roundw
                                  case rel => exact ⟨j + 1, by omega, by go_num, by rw [HNX.out]; exact HLS.out _, (hfj.setCell (p := ⟨g, xn, none⟩) (.inl (by simp)) _).drew, (HPP.out _).1.fr0 ((Fr.refl _ _).drew), (HPP.out _).2⟩
                                  case measure => simp [intOf]; omega
                              · rw [cap_all (by omega)] at hlv
                                have hF10 := hF9.trans2 hfj (by simp; omega)
                                have hB10 := hB8.fr hfj (by simp; omega)
                                have hrR10 := hrR8.fr hfj (fun h0 a ha => by simpa using hnR a ha)
                                have hsR10 := hsR8.fr hfj (fun a ha => by simpa using hnR a ha)
                                go_wp2_with fail
                                go_roundg t
                                case measure => omega
                                case rel => exact ⟨R, _, u2, kn2, A6, c6, rfl, hrR10, hsR10, hnR, by omega, HCI, HCM, HFL, HKL2, hul3, hp, hro, by have := hfj.size; omega, hlv, hB10, hF10⟩
                          · have hb3 : (v2 != 2) = true := by simpa using hv2
                            rw [if_neg hv2] at hfl
                            have HFL := Lib.hid hfl
                            have HCI : Hid (CInv n.toNat (lastOf s) kept (bumpL lev G)) := HST.out.bump.1
                            have HCM : Hid (cntM (lastOf s) kept (bumpL lev G) < t) := by show _ < _; have h1 := HST.out.bump.2; have h2 := hcm.out; omega
                            have hgn := (set_nodup hci.out.set).sublist HST.out.sub
                            have HIN : Hid (∀ x ∈ G, 0 ≤ x ∧ x < lev.length) := fun x hx => hci.out.in_ (HST.out.sub.subset hx)
                            have HNN : Hid (∀ (j : Nat), (bumpL lev (G.take j)).length = lev.length) := fun j => bumpL_length _ _
                            have HBB : Hid (∀ (j : Nat) (x : Int), x ∈ G → 0 ≤ levOf (bumpL lev (G.take j)) x ∧ levOf (bumpL lev (G.take j)) x ≤ 20) := fun j x hx => by
                              have h1 := hci.out.lo x (HST.out.sub.subset hx)
                              rw [levOf_bump _ _ (fun y hy => HIN.out y (List.mem_of_mem_take hy)) (hgn.sublist (List.take_sublist _ _)) x (HIN.out x hx).1]
                              split <;> omega
                            have hln := Nat.le_of_eq hci.out.len
                            have hln2 := Nat.le_of_eq hci.out.len.symm
                            clear hfl hv2 HGF HLOW hrR8 hsR8 hci hcm HST HRR hgn
                            go_wp2_with fail
                            go_loopw [19] (fun i wr' => ∃ j : Nat, j ≤ G.length ∧ i = .int .i64 j ∧ LevAt wr' g (bumpL lev (G.take j)) ∧ Fr [g] w8 wr' ∧ PKn w.heap.size wr' (w.heap.size + 1) ans u2 kn2 false [] ∧ RowsOff wr' (w.heap.size + 1) g) (fun i _ => G.length - (intOf i).toNat)
                            case atStart => exact ⟨0, Nat.zero_le _, rfl, by rw [bump_zero]; exact hlv8, Fr.refl _ _, hp8, hro8⟩
                            case round =>
                              clear hlv8 hp8 hro8
                              obtain ⟨j, hj, rfl, hlv, hfj, hp, hro⟩ := hrel
                              by_cases hlt : j < G.length
                              · obtain ⟨b0, o0, x, rfl, hx, hc⟩ := (hrG8.fr hfj (fun h0 a ha => by simpa using hnG a ha)).at_ hlt
                                have hxm := List.mem_of_getElem? hx.out
                                have hxr := HIN.out x hxm
                                have hxb := HBB.out j x hxm
                                obtain ⟨xn, rfl⟩ : ∃ xn : Nat, x = xn := ⟨x.toNat, by omega⟩
                                have hxl : xn < (bumpL lev (G.take j)).length := by rw [HNN.out]; omega
                                have hb0 := hlv (by omega)
                                have k1 := hlv.cell hxl
                                have k2 := hlv.frozen hxl
                                have HPP := Lib.hid (fun v => PKn.put (i := xn) (v := v) hp hb0 hro (by omega))
                                have HLS := Lib.hid (fun v => hlv.set hxl v)
                                have HNX := Lib.hid (bump_next (lev := lev) hx)
                                have hne : b0 ≠ g := hnG _ rfl
                                have hxg : xn < all.length := by omega
                                clear hp hro hlv hb0 hxl hxm
                                generalize levOf (bumpL lev (G.take j)) xn = lv at *
                                go_wp2_with fail
                                go_roundw
                                case rel => exact ⟨j + 1, by omega, by go_num, by rw [HNX.out]; exact HLS.out _, hfj.setCell (.inl (by simp)) _, (HPP.out _).1, (HPP.out _).2⟩
                                case measure => simp [intOf]; omega
                              · rw [bump_all (by omega)] at hlv
                                have hF10 := hF9.trans2 hfj (by simp; omega)
                                have hB10 := hB8.fr hfj (by simp; omega)
                                have hr10 := hr8.fr hfj (fun h0 a ha => by simpa using hag a ha)
                                have hs10 := hs8.fr hfj (fun a ha => by simpa using hag a ha)
                                go_wp2_with fail
                                go_roundg t
                                case measure => omega
                                case rel => exact ⟨kept, _, u2, kn2, A, cc, rfl, hr10, hs10, hag, hkl, HCI, HCM, HFL, HKL2, hul3, hp, hro, by have := hfj.size; omega, hlv, hB10, hF10⟩
          · have hb2 : (v != 2) = true := by simpa using hv
            rw [if_neg hv] at hfl
            have hR2 : Hid (countedOf n start ans = endOf false [] 7 (decide (u < ans.length)) [] []) := by
              show _ = _
              rw [hR.out, hfl]
              rfl
            clear hv hfl hkl
            go_wp2_with fail
            refine (endK_any w.heap.size _ ans u kn false [] 7 none none 0 0 [] [] _ hp4 (hn _) (hn _)).mono ?_
            rintro e w11 ⟨v11, rfl, hf11, A11, a11, B11, b11, C11, c11, rfl, hq1, hq2, hq3⟩
            have hB11 := hB4.fr hf11 (by simp)
            have qc0 := hB11.cell 0 rfl
            have qc1 := hB11.cell 1 rfl
            have qc2 := hB11.cell 2 rfl
            have qc3 := hB11.cell 3 rfl
            have qd0 := hB11.frozen 0
            have qd1 := hB11.frozen 1
            have qd2 := hB11.frozen 2
            have qd3 := hB11.frozen 3
            go_wp2
            refine bodyPost_ret (results_qst rfl _ _ w.heap.size rfl (hB11.four _ _ _ _)) rfl ?_
            rw [hR2.out]
            exact qst_ret (Nat.le_refl _) ((hF4.fr rfl).trans hf11) hB11 hq1 hq2 hq3
end Go.Proofs.YtjpbmbonccenfaaDoor

/- awake: the examples of the chapter about sets. -/
namespace Go.Proofs.YtjpbmbonccenfaaDoor
open Go.RowKit
set_option linter.unusedVariables false

theorem ex_chunks : chunksOf [1, 2, 3, 4, 5] 2 = [[1, 2], [3, 4, 5]] := by decide
theorem ex_l1 : listOf 4 [] = (⟨false, [0, 1, 2, 3], [], []⟩, 0) := by kernel_rfl
theorem ex_l2 : listOf 4 [2] = (⟨false, [0, 1], [], []⟩, 0) := by kernel_rfl
theorem ex_l3 : listOf 2 [2, 1, 1] = (⟨true, [], [0, 1], []⟩, 0) := by kernel_rfl

set_option maxRecDepth 100000 in
set_option maxHeartbeats 3200000 in
theorem awake_any (w : World) (htab : Tab w) : Calls Tryd.prog 15 #[] w (RetV w (.bool true)) := by
  go_enter Tryd.func15, Tryd.ntmps15
  go_wp2_with fail
  have r1 := Rd.lit w 3 (.int .i64) [1, 2, 3, 4, 5] _ rfl (by simp)
  refine (Chunks_any _ _ [1, 2, 3, 4, 5] 2 _ r1 (by simp)).mono ?_
  rw [ex_chunks]
  rintro e w1 ⟨v, rfl, hf1, hR⟩
  have hF1 : Fr [] w w1 := Fr.trans (Fr.alloc (Fr.refl _ _) _) hf1
  clear r1 hf1
  obtain ⟨SA, sc, rows, rfl, hrl, hO, hrow⟩ := id hR
  go_wp2_with fail
  refine (List_any none 0 4 [] _ (Rd.nil_ _ _) (htab.fr hF1)).mono ?_
  rw [ex_l1]
  rintro e w2 ⟨v2, rfl, hf2, A1, a1, B1, b1, C1, c1, rfl, ⟨hq1, _⟩, ⟨hq2, _⟩, hq3, _⟩
  have hF2 := hF1.trans hf2
  have hR2 := hR.fr0 hf2
  have hQ2 := (Blk.new w2 34 #[.bool false, .slice A1 4 a1, .slice B1 0 b1, .slice C1 0 c1] _ rfl).alloc (.cells #[.int .u8 2] 39)
  clear hR hf2 hF1 hO hrow
  go_wp2_with fail
  have r2 : Rd ((w2.alloc (.cells #[.bool false, .slice A1 4 a1, .slice B1 0 b1, .slice C1 0 c1] 34)).alloc (.cells #[.int .u8 2] 39)) (.int .u8) (some ⟨w2.heap.size + 1, 0, none⟩) 1 [2] := Rd.lit (w2.alloc (.cells #[.bool false, .slice A1 4 a1, .slice B1 0 b1, .slice C1 0 c1] 34)) 39 (.int .u8) [2] _ (by simp) (by simp)
  have hFa : Fr [] w2 ((w2.alloc (.cells #[.bool false, .slice A1 4 a1, .slice B1 0 b1, .slice C1 0 c1] 34)).alloc (.cells #[.int .u8 2] 39)) := (by repeat (first | exact Fr.refl _ _ | assumption | apply Fr.drewN | apply Fr.drew | apply Fr.alloc | refine Fr.setCell ?_ (by simp) _))
  refine (List_any _ _ 4 [2] _ r2 (htab.fr (hF2.trans hFa))).mono ?_
  rw [ex_l2]
  rintro e w3 ⟨v3, rfl, hf3, A2, a2, B2, b2, C2, c2, rfl, ⟨hp1, _⟩, ⟨hp2, _⟩, hp3, _⟩
  have hF3 := (hF2.trans hFa).trans hf3
  have hR3 := (hR2.fr0 hFa).fr0 hf3
  have hx1 := (hq1.fr0 hFa).fr0 hf3
  have hQ3 := (hQ2.fr hf3 (by simp)).alloc (.cells #[.bool false, .slice A2 2 a2, .slice B2 0 b2, .slice C2 0 c2] 34) |>.alloc (.cells #[.int .u8 2, .int .u8 1, .int .u8 1] 39)
  have hP3 := (Blk.new w3 34 #[.bool false, .slice A2 2 a2, .slice B2 0 b2, .slice C2 0 c2] _ rfl).alloc (.cells #[.int .u8 2, .int .u8 1, .int .u8 1] 39)
  clear hR2 hf3 hF2 hFa hQ2 r2 hq1 hq2 hq3
  go_wp2_with fail
  have r3 : Rd ((w3.alloc (.cells #[.bool false, .slice A2 2 a2, .slice B2 0 b2, .slice C2 0 c2] 34)).alloc (.cells #[.int .u8 2, .int .u8 1, .int .u8 1] 39)) (.int .u8) (some ⟨w3.heap.size + 1, 0, none⟩) 3 [2, 1, 1] := Rd.lit (w3.alloc (.cells #[.bool false, .slice A2 2 a2, .slice B2 0 b2, .slice C2 0 c2] 34)) 39 (.int .u8) [2, 1, 1] _ (by simp) (by simp)
  have hFb : Fr [] w3 ((w3.alloc (.cells #[.bool false, .slice A2 2 a2, .slice B2 0 b2, .slice C2 0 c2] 34)).alloc (.cells #[.int .u8 2, .int .u8 1, .int .u8 1] 39)) := (by repeat (first | exact Fr.refl _ _ | assumption | apply Fr.drewN | apply Fr.drew | apply Fr.alloc | refine Fr.setCell ?_ (by simp) _))
  refine (List_any _ _ 2 [2, 1, 1] _ r3 (htab.fr (hF3.trans hFb))).mono ?_
  rw [ex_l3]
  rintro e w4 ⟨v4, rfl, hf4, A3, a3, B3, b3, C3, c3, rfl, ⟨hs1, _⟩, ⟨hs2, _⟩, hs3, _⟩
  have hFc : Fr [] w4 (w4.alloc (.cells #[.bool true, .slice A3 0 a3, .slice B3 2 b3, .slice C3 0 c3] 34)) := (by repeat (first | exact Fr.refl _ _ | assumption | apply Fr.drewN | apply Fr.drew | apply Fr.alloc | refine Fr.setCell ?_ (by simp) _))
  have hf4c := (hFb.trans hf4).trans hFc
  have hF4 := hF3.trans hf4c
  have hR4 := hR3.fr0 hf4c
  have hx2 := hx1.fr0 hf4c
  have hx3 := hp1.fr0 hf4c
  have hx4 := hs2.fr0 hFc
  have hQ4 := (hQ3.fr hf4 (by simp)).alloc (.cells #[.bool true, .slice A3 0 a3, .slice B3 2 b3, .slice C3 0 c3] 34)
  have hP4 := (hP3.fr hf4 (by simp)).alloc (.cells #[.bool true, .slice A3 0 a3, .slice B3 2 b3, .slice C3 0 c3] 34)
  have hS4 := Blk.new w4 34 #[.bool true, .slice A3 0 a3, .slice B3 2 b3, .slice C3 0 c3] _ rfl
  obtain ⟨SA4, sc4, rows4, hv4, hrl, hO, hrow⟩ := hR4
  injection hv4 with hva hvb hvc
  subst hva hvc
  obtain ⟨D1, d1, hd1, ho1⟩ := hrow 0 [1, 2] rfl
  obtain ⟨D2, d2, hd2, ho2⟩ := hrow 1 [3, 4, 5] rfl
  obtain ⟨g, rfl, _, _⟩ := own_some hO (by simp)
  have m0 := (hO.cellAt 0 (by simp)).trans (show _ = some (Value.slice D1 2 d1) by rw [List.getElem?_map, hd1]; first | done | rfl)
  have m1 := (hO.cellAt 1 (by simp)).trans (show _ = some (Value.slice D2 3 d2) by rw [List.getElem?_map, hd2]; first | done | rfl)
  have y1 : Rd _ (.int .i64) D1 d1 [1, 2] := (Rd.of_own ho1).2
  have y2 : Rd _ (.int .i64) D2 d2 [3, 4, 5] := (Rd.of_own ho2).2
  have z1 := hQ4.lt
  have z2 := hP4.lt
  have z3 := hS4.lt
  have q0 := hQ4.cell 0 rfl
  have q1 := hQ4.cell 1 rfl
  have p1 := hP4.cell 1 rfl
  have s0 := hS4.cell 0 rfl
  have s2 := hS4.cell 2 rfl
  clear hx1 hQ3 hP3 r3 hFb hF3 hf4 hs1 hs2 hs3 hp1 hp2 hp3 hR3 hO hrow ho1 ho2 hd1 hd2 hFc hf4c
  go_wp2_with fail
  have hz : (w4.alloc (.cells #[.bool true, .slice A3 0 a3, .slice B3 2 b3, .slice C3 0 c3] 34)).heap.size = w4.heap.size + 1 := by simp
  generalize (w4.alloc (.cells #[.bool true, .slice A3 0 a3, .slice B3 2 b3, .slice C3 0 c3] 34)) = W4 at *
  have HZ := Lib.hid hz
  have z4 : w4.heap.size < W4.heap.size + 1 := by omega
  have z5 : w4.heap.size < W4.heap.size + 1 + 1 := by omega
  have z6 : w4.heap.size < W4.heap.size := by omega
  clear hz
  refine (lawints_any D1 _ d1 2 [1, 2] [1, 2] _ (y1.fr0 (by repeat (first | exact Fr.refl _ _ | assumption | apply Fr.drewN | apply Fr.drew | apply Fr.alloc | refine Fr.setCell ?_ (by simp) _))) (Rd.lit W4 3 (.int .i64) [1, 2] _ HZ.out.symm (by simp))).mono ?_
  rintro e w5 ⟨rfl, n5, rfl⟩
  go_wp2_with fail
  refine (lawints_any D2 _ d2 3 [3, 4, 5] [3, 4, 5] _ (y2.fr0 (by repeat (first | exact Fr.refl _ _ | assumption | apply Fr.drewN | apply Fr.drew | apply Fr.alloc | refine Fr.setCell ?_ (by simp) _))) ((Rd.lit (W4.alloc (.cells #[.int .i64 1, .int .i64 2] 3)) 3 (.int .i64) [3, 4, 5] _ (by simp) (by simp)).fr0 (by repeat (first | exact Fr.refl _ _ | assumption | apply Fr.drewN | apply Fr.drew | apply Fr.alloc | refine Fr.setCell ?_ (by simp) _)))).mono ?_
  rintro e w6 ⟨rfl, n6, rfl⟩
  go_wp2_with fail
  refine (lawints_any A2 _ a2 2 [0, 1] [0, 1] _ (hx3.fr0 (by repeat (first | exact Fr.refl _ _ | assumption | apply Fr.drewN | apply Fr.drew | apply Fr.alloc | refine Fr.setCell ?_ (by simp) _))) ((Rd.lit ((W4.alloc (.cells #[.int .i64 1, .int .i64 2] 3)).alloc (.cells #[.int .i64 3, .int .i64 4, .int .i64 5] 3)) 3 (.int .i64) [0, 1] _ (by simp) (by simp)).fr0 (by repeat (first | exact Fr.refl _ _ | assumption | apply Fr.drewN | apply Fr.drew | apply Fr.alloc | refine Fr.setCell ?_ (by simp) _)))).mono ?_
  rintro e w7 ⟨rfl, n7, rfl⟩
  go_wp2_with fail
  refine (lawints_any B3 _ b3 2 [0, 1] [0, 1] _ (hx4.fr0 (by repeat (first | exact Fr.refl _ _ | assumption | apply Fr.drewN | apply Fr.drew | apply Fr.alloc | refine Fr.setCell ?_ (by simp) _))) ((Rd.lit (((W4.alloc (.cells #[.int .i64 1, .int .i64 2] 3)).alloc (.cells #[.int .i64 3, .int .i64 4, .int .i64 5] 3)).alloc (.cells #[.int .i64 0, .int .i64 1] 3)) 3 (.int .i64) [0, 1] _ (by simp) (by simp)).fr0 (by repeat (first | exact Fr.refl _ _ | assumption | apply Fr.drewN | apply Fr.drew | apply Fr.alloc | refine Fr.setCell ?_ (by simp) _)))).mono ?_
  rintro e w8 ⟨rfl, n8, rfl⟩
  go_wp2
  go_ret
  exact ⟨by simp, hF4.trans (by repeat (first | exact Fr.refl _ _ | assumption | apply Fr.drewN | apply Fr.drew | apply Fr.alloc | refine Fr.setCell ?_ (by simp) _))⟩
end Go.Proofs.YtjpbmbonccenfaaDoor
