/- ReduceCulprit: the walk. -/
import Derived.Test.YtjpbmbonccenfaaCulp
import Derived.Test.YtjpbmbonccenfaaRuns
namespace Go.Proofs.Ytjpbmbonccenfaa
open Go.RowKit
set_option linter.unusedVariables false

theorem elemVerdicts : Elem Try.prog 22 33 (.int .u8 0) 1 1 := ⟨Try.underlying22, by kernel_rfl, rfl, by omega, by omega⟩
theorem one_u8 (z : Int) : (Value.int .u8 z).oneCell' = true := rfl
theorem anc_ok {P : List (List Int)} (h : checkHist P = 0) {v : Int} (hv : 0 ≤ v ∧ v < P.length) : ancestorsOf P v = (ancOf P [v], 0) := by
  unfold ancestorsOf
  rw [if_neg (by simpa using h), if_neg (by omega)]
theorem anc_arg {P : List (List Int)} (h : checkHist P = 0) {v : Int} (hv : ¬ (0 ≤ v ∧ v < P.length)) : ancestorsOf P v = ([], 1) := by
  unfold ancestorsOf
  rw [if_neg (by simpa using h), if_pos (by omega)]
/-- Good versions, as many as have been looked for. -/
structure GoodL (P : List (List Int)) (first : Int) (k : Nat) (gd : List Int) : Prop where
  rng : ∀ g ∈ gd, 0 ≤ g ∧ g < k
  srt : gd.Pairwise (· < ·)
  no : ∀ g ∈ gd, first ∉ ancOf P [g]
  len : gd.length ≤ k
theorem GoodL.more {P : List (List Int)} {first : Int} {k : Nat} {gd : List Int} (h : GoodL P first k gd) (hn : first ∉ ancOf P [(k : Int)]) : GoodL P first (k + 1) (gd ++ [(k : Int)]) :=
  ⟨fun g hg => by
    rcases List.mem_append.1 hg with hg | hg
    · have := h.rng g hg; omega
    · simp at hg; omega, by
    rw [List.pairwise_append]
    exact ⟨h.srt, by simp, fun a ha b hb => by simp at hb; subst hb; exact (h.rng a ha).2⟩, fun g hg => by
    rcases List.mem_append.1 hg with hg | hg
    · exact h.no g hg
    · simp at hg; subst hg; exact hn, by have := h.len; simp; omega⟩
theorem GoodL.same {P : List (List Int)} {first : Int} {k : Nat} {gd : List Int} (h : GoodL P first k gd) : GoodL P first (k + 1) gd :=
  ⟨fun g hg => by have := h.rng g hg; omega, h.srt, h.no, by have := h.len; omega⟩
theorem GoodL.set {P : List (List Int)} {first : Int} {k : Nat} {gd : List Int} (h : GoodL P first k gd) (hk : k ≤ P.length) : isSet P.length gd = true :=
  isSet_iff.2 ⟨fun g hg => by have := h.rng g hg; omega, h.srt⟩
theorem GoodL.cand {P : List (List Int)} {first bad : Int} {k : Nat} {gd : List Int} (hP : ValH P) (h : GoodL P first k gd) (hk : k ≤ P.length) (hb : 0 ≤ bad ∧ bad < P.length) (hf : first ∈ ancOf P [bad]) : bad ∈ cand0 P gd bad ∧ first ∈ cand0 P gd bad := by
  have hg : InR P.length gd := fun g hg => by have := h.rng g hg; omega
  refine ⟨(clash_iff hP hg hb).2 fun g hgm hbm => h.no g hgm (anc_trans hP (hg g hgm) hbm hf), ?_⟩
  unfold cand0
  rw [mem_minus, anc_union hP hg]
  refine ⟨hf, ?_⟩
  rintro ⟨g, hgm, hx⟩
  exact h.no g hgm hx

/-- Between two questions. -/
def CuRel (w : World) (P : List (List Int)) (first bad : Int) (brs : List Bool) (c0 : List Int) (t : Nat) (av wv : Value) (wr : World) : Prop :=
  ∃ (ans : List Int) (whole : Bool) (A : Option Addr) (c : Nat), av = .slice A ans.length c ∧ wv = .bool whole ∧ wr.ownsRow w.heap.size 33 1 (.slice A ans.length c) ans.length (ans.map (.int .u8)) ∧
    Hid (CuSt P first bad (inB brs) c0 ans whole) ∧ t + ans.length = 1000 ∧ Fr [] w wr
set_option maxRecDepth 100000 in
set_option maxHeartbeats 6400000 in
theorem LCulp_any (A B : Option Addr) (c b : Nat) (P : List (List Int)) (first bad : Int) (brs : List Bool) (w : World) (ha : Rss w A c P) (hb : Rd w .bool B b brs) :
    Calls Try.prog 7 #[.agg #[.slice A P.length c], .int .i64 first, .int .i64 bad, .slice B brs.length b] w (RetV w (.bool true)) := by
  have hbb := hb.bound
  obtain ⟨W, hW⟩ : ∃ W, W = (w.alloc (.cells #[.slice A P.length c] 57)) := ⟨_, rfl⟩
  have hfW : Fr [] w W := by rw [hW]; exact (by repeat (first | exact Fr.refl _ _ | assumption | apply Fr.drewN | apply Fr.drew | apply Fr.alloc | refine Fr.setCell ?_ (by simp) _))
  have hbH : Blk W w.heap.size 57 #[.slice A P.length c] := by rw [hW]; exact Blk.new w _ _ _ rfl
  have HW := Lib.hid hW.symm
  clear hW
  go_enter Try.func7, Try.ntmps7
  go_wp2_with fail
  rw [HW.out]
  refine (wide_any A c P W (ha.fr0 hfW)).mono ?_
  rintro e w1 ⟨wd, rfl, hf1, _⟩
  have hF1 := hfW.trans hf1
  have hH1 := hbH.fr hf1 (by simp)
  have q1 := hH1.cell 0 rfl
  clear hfW hf1 HW hbH
  cases wd
  · by_cases h24 : 24 < P.length
    · have d2 : decide (24 < (P.length : Int)) = true := by simp; omega
      go_wp2_with fail
      refine (runs_any _).mono ?_
      rintro e w2 ⟨rfl, hf2⟩
      go_wp2
      go_ret
      exact ⟨rfl, hF1.trans hf2⟩
    · have hp24 : P.length ≤ 24 := by omega
      have d2 : decide (24 < (P.length : Int)) = false := by simp; omega
      clear h24
      by_cases h1 : checkHist P = 0
      · have e1 : (checkHist P != 0) = false := by simp [h1]
        have HV := Lib.hid (valH h1)
        have H1 := Lib.hid h1
        clear h1
        by_cases hbr : 0 ≤ bad ∧ bad < P.length
        · obtain ⟨bn, rfl⟩ : ∃ bn : Nat, bad = bn := ⟨bad.toNat, by omega⟩
          have HA := Lib.hid (anc_ok H1.out hbr)
          have hbn : bn < P.length := by omega
          by_cases hfi : first ∈ ancOf P [(bn : Int)]
          · have d3 : decide (first ∈ ancOf P [(bn : Int)]) = true := by simpa using hfi
            have HFI := Lib.hid hfi
            clear hfi
            go_wp2_with fail
            refine (refCheckHistory_any A c P _ (ha.fr0 hF1)).mono ?_
            rintro e w2 ⟨rfl, hf2⟩
            have hF2 := hF1.trans hf2
            have hH2 := hH1.fr hf2 (by simp)
            have q2 := hH2.cell 0 rfl
            clear hF1 hf2 hH1 q1
            go_wp2_with fail
            refine (refAncestors_any A c P bn _ (ha.fr0 hF2)).mono ?_
            rw [HA.out]
            rintro e w3 ⟨A3, c3, rfl, hf3, ho3⟩
            have r3 : Rd w3 (.int .i64) A3 c3 (ancOf P [(bn : Int)]) := (Rd.of_own ho3).2
            have hF3 := hF2.trans hf3
            have hH3 := hH2.fr hf3 (by simp)
            clear ho3 hf3 q2 hF2 hH2
            simp only
            go_wp2_with fail
            refine (Has_any A3 c3 (ancOf P [(bn : Int)]) first _ r3).mono ?_
            rw [d3]
            rintro e w4 ⟨rfl, n4, rfl⟩
            have hF4 := hF3.drewN n4
            have hH4 := hH3.drewN n4
            clear hF3 hH3 r3 d3
            generalize w3.drewN n4 = w4 at hF4 hH4 ⊢
            have q4 := hH4.cell 0 rfl
            go_wp2_with fail
            go_loopw [11, 12] (fun gv kv wr => ∃ (k : Nat) (gd : List Int), k ≤ P.length ∧ kv = .int .i64 k ∧ Hid (GoodL P first k gd) ∧ gd.length ≤ k ∧ GathN w4 3 gd gv wr) (fun _ k _ => P.length - (intOf k).toNat)
            case atStart => exact ⟨0, [], Nat.zero_le _, rfl, ⟨by simp, by simp, by simp, by simp⟩, by simp, GathN.start _ _ rfl⟩
            case round =>
              obtain ⟨k, gd, hk, rfl, hgl, hgk, A5, c5, rfl, hown, hf⟩ := hrel
              have hH5 := hH4.fr hf (by simp)
              have q5 := hH5.cell 0 rfl
              have hF5 := hF4.trans hf
              by_cases hgo : k < P.length ∧ gd.length < 3
              · obtain ⟨hlt, h3⟩ := hgo
                have d4 : decide (k < P.length) = true := by simpa using hlt
                have d5 : decide ((gd.length : Int) < 3) = true := by simp; omega
                have d5' : decide (gd.length < 3) = true := by simp; omega
                have HK := Lib.hid (anc_ok H1.out (v := (k : Int)) ⟨by omega, by omega⟩)
                by_cases hfk : first ∈ ancOf P [(k : Int)]
                · have d6 : decide (first ∈ ancOf P [(k : Int)]) = true := by simpa using hfk
                  have hgl2 : Hid (GoodL P first (k + 1) gd) := hgl.out.same
                  clear hfk hgl
                  go_wp2_with fail
                  refine (refAncestors_any A c P k _ (ha.fr0 hF5)).mono ?_
                  rw [HK.out]
                  rintro e w6 ⟨A6, c6, rfl, hf6, ho6⟩
                  simp only
                  go_wp2_with fail
                  refine (Has_any A6 c6 (ancOf P [(k : Int)]) first _ (Rd.of_own ho6).2).mono ?_
                  rw [d6]
                  rintro e w7 ⟨rfl, n7, rfl⟩
                  go_wp2_with fail
                  go_roundw
                  case rel => exact ⟨k + 1, gd, by omega, by go_num, hgl2, by omega, GathN.same ((hf.trans hf6).drewN n7) (own_drewN (own_fr hown hf6 (by simp)) _) rfl⟩
                  case measure => simp [intOf]; omega
                · have d6 : decide (first ∈ ancOf P [(k : Int)]) = false := by simpa using hfk
                  have hgl2 : Hid (GoodL P first (k + 1) (gd ++ [(k : Int)])) := hgl.out.more hfk
                  clear hfk hgl
                  go_wp2_with fail
                  refine (refAncestors_any A c P k _ (ha.fr0 hF5)).mono ?_
                  rw [HK.out]
                  rintro e w6 ⟨A6, c6, rfl, hf6, ho6⟩
                  simp only
                  have hown6 := own_fr hown hf6 (by simp)
                  have hz6 := (hf.trans hf6).size
                  go_wp2_with fail
                  refine (Has_any A6 c6 (ancOf P [(k : Int)]) first _ (Rd.of_own ho6).2).mono ?_
                  rw [d6]
                  rintro e w7 ⟨rfl, n7, rfl⟩
                  go_wp2_with (at_builtin; refine wpList_append_rd rfl (.tmp 72) (.tmp 74) _ rfl elemInts (.slice A5 gd.length c5) _ rfl (own_drewN (hown6.alloc _) _) _ _ [(k : Int)] (.int .i64) rfl (Rd.one_cell (by simp)) one_i64 (by simp; omega) (by simp; omega) ?_; intro A8 c8 w8 hown8 hg8 hat8)
                  go_roundw
                  case rel => exact ⟨k + 1, gd ++ [(k : Int)], by omega, by go_num, hgl2, by simp; omega, GathN.snoc (((hf.trans hf6).alloc _).drewN _) (own_drewN (hown6.alloc _) _) hg8 hown8 (by simp)⟩
                  case measure => simp [intOf]; omega
              · have hset := hgl.out.set hk
                have hcd := hgl.out.cand HV.out hk hbr HFI.out
                have HSET := Lib.hid hset
                have hrg : Rd wr (.int .i64) A5 c5 gd := (Rd.of_own hown).2
                have hcs := cand0_set (P := P) gd (bn : Int)
                have hcl := (set_inR hcs).2
                have hcult : Hid (∀ ans : List Int, ans.length ≤ 4096 → culprits P gd bn 1 ans = finC ans (culI P ans 1 ((cand0 P gd bn).length + 1) (cand0 P gd bn) [(bn : Int)] 0)) := fun ans hl =>
                  cu_culprits H1.out hset hbr hcd.1 hl
                have hst0 : Hid (CuSt P first bn (inB brs) (cand0 P gd bn) [] true) := cu_start HV.out hbr hcs hcd.2 (fun x hx => (mem_minus.1 hx).1)
                have hstep : Hid (∀ ans whole, CuSt P first bn (inB brs) (cand0 P gd bn) ans whole → _) := fun ans whole hc => cu_step HV.out hc
                clear hset hcd hcs hgl hown
                generalize cand0 P gd bn = c0 at *
                have hway : decide (k < P.length) = false ∨ (decide (k < P.length) = true ∧ decide ((gd.length : Int) < 3) = false) := by
                  by_cases hk2 : k < P.length
                  · right
                    have : ¬ gd.length < 3 := fun h => hgo ⟨hk2, h⟩
                    exact ⟨by simpa using hk2, by simp; omega⟩
                  · left; simpa using hk2
                clear hgo
                rcases hway with d4 | ⟨d4, d5⟩
                all_goals
                  go_wp2_with fail
                  have hI : CuRel wr P first bn brs c0 1000 (.slice none 0 0) (.bool true) wr := ⟨[], true, none, 0, rfl, rfl, World.ownsRow_nil _ _ _ _, hst0, rfl, Fr.refl _ _⟩
                  clear hst0
                  go_loopg [15, 16] 1000 (CuRel wr P first bn brs c0)
                  case atStart => exact hI
                  case round =>
                    clear hI
                    obtain ⟨ans, whole, A6, c6, rfl, rfl, hoa, hcu, hgk, hfr⟩ := hrel
                    have hal : ans.length ≤ P.length := by
                      obtain ⟨_, _, _, _, _, _, h, _⟩ := hcu.out.ex
                      omega
                    have hF6 := hF5.trans hfr
                    have hH6 := hH5.fr hfr (by simp)
                    have q6 := hH6.cell 0 rfl
                    have hrg6 := hrg.fr0 hfr
                    have hra := (Rd.of_own hoa).2
                    have d7 : decide (ans.length ≤ P.length) = true := by simpa using hal
                    have hcq := hcult.out ans (by omega)
                    rcases hstep.out ans whole hcu.out with ⟨cd, hcd, hfc, hwl⟩ | ⟨v, hv, hv0, hvn, hac, hcu2⟩
                    · have HQ : Hid (culprits P gd bn 1 ans = (⟨true, [], cd, []⟩, 0)) := by
                        show _ = _
                        rw [hcq, hcd]; simp [finC, endOf]
                      have d8 : decide (first ∈ cd) = true := by simpa using hfc
                      have HWL := Lib.hid hwl
                      clear hcq hcd hfc hwl hcu
                      go_wp2_with fail
                      refine (Culprits_any A A5 c c5 P gd bn 1 A6 c6 ans _ (ha.fr0 hF6) hrg6 hra).mono ?_
                      rw [HQ.out]
                      rintro e w9 ⟨v9, rfl, hf9, A1, a1, B1, b1, C1, c1, rfl, ⟨hq1, _⟩, ⟨hq2, _⟩, hq3, _⟩
                      have hF9 := hF6.trans hf9
                      have hQ1 := Blk.new w9 26 #[.bool true, .slice A1 0 a1, .slice B1 cd.length b1, .slice C1 0 c1] _ rfl
                      have qc0 := hQ1.cell 0 rfl
                      have qc1 := hQ1.cell 1 rfl
                      have qc2 := hQ1.cell 2 rfl
                      have qc3 := hQ1.cell 3 rfl
                      have qd0 := hQ1.frozen 0
                      have qd1 := hQ1.frozen 1
                      have qd2 := hQ1.frozen 2
                      have qd3 := hQ1.frozen 3
                      simp only
                      go_wp2_with fail
                      refine (Has_any B1 b1 cd first _ (hq2.alloc _)).mono ?_
                      rw [d8]
                      rintro e w10 ⟨rfl, n10, rfl⟩
                      cases whole
                      · go_wp2_with fail
                        refine (runs_any _).mono ?_
                        rintro e w11 ⟨rfl, hf11⟩
                        go_wp2
                        go_ret
                        exact ⟨rfl, ((hF9.alloc _).drewN _).trans hf11⟩
                      · have e9 : ((cd.length : Int) == 1) = true := by rw [HWL.out rfl]; rfl
                        have e9' : (cd.length == 1) = true := by rw [HWL.out rfl]; rfl
                        go_wp2_with fail
                        refine (runs_any _).mono ?_
                        rintro e w11 ⟨rfl, hf11⟩
                        go_wp2
                        go_ret
                        exact ⟨rfl, ((hF9.alloc _).drewN _).trans hf11⟩
                    · obtain ⟨vn, rfl⟩ : ∃ vn : Nat, v = vn := ⟨v.toNat, by omega⟩
                      have HQ : Hid (culprits P gd bn 1 ans = (⟨false, [(vn : Int)], [], []⟩, 0)) := by
                        show _ = _
                        rw [hcq, hv]; rfl
                      have hvl : vn < P.length := by omega
                      have HVK := Lib.hid (anc_ok H1.out (v := (vn : Int)) ⟨by omega, by omega⟩)
                      have HCU := Lib.hid hcu2
                      clear hcq hv hcu hcu2
                      go_wp2_with fail
                      refine (Culprits_any A A5 c c5 P gd bn 1 A6 c6 ans _ (ha.fr0 hF6) hrg6 hra).mono ?_
                      rw [HQ.out]
                      rintro e w9 ⟨v9, rfl, hf9, A1, a1, B1, b1, C1, c1, rfl, ⟨hq1, _⟩, ⟨hq2, _⟩, hq3, _⟩
                      have hF9 := hF6.trans hf9
                      have hG9 := hfr.trans hf9
                      have hq1' : Rd w9 (.int .i64) A1 a1 [(vn : Int)] := hq1
                      obtain ⟨g2, o2, y2, rfl, hy2, hcy⟩ := hq1'.at_ (k := 0) (by simp)
                      obtain rfl : (vn : Int) = y2 := by have := hy2.out; simpa using this
                      have hlg := World.block_lt_of_cell? w9 _ hcy
                      have hH9 := hH6.fr hf9 (by simp)
                      have hlH := hH9.lt
                      have hQ1 := Blk.new w9 26 #[.bool false, .slice (some ⟨g2, o2, none⟩) 1 a1, .slice B1 0 b1, .slice C1 0 c1] _ rfl
                      have hH10 := hH9.alloc (.cells #[.bool false, .slice (some ⟨g2, o2, none⟩) 1 a1, .slice B1 0 b1, .slice C1 0 c1] 26)
                      have hq10 : Rd (w9.alloc (.cells #[.bool false, .slice (some ⟨g2, o2, none⟩) 1 a1, .slice B1 0 b1, .slice C1 0 c1] 26)) (.int .i64) (some ⟨g2, o2, none⟩) a1 [(vn : Int)] := hq1'.alloc _
                      have hF10 : Fr [] w (w9.alloc (.cells #[.bool false, .slice (some ⟨g2, o2, none⟩) 1 a1, .slice B1 0 b1, .slice C1 0 c1] 26)) := hF9.alloc _
                      have hG10 := hG9.alloc (.cells #[.bool false, .slice (some ⟨g2, o2, none⟩) 1 a1, .slice B1 0 b1, .slice C1 0 c1] 26)
                      have hoa10 := (own_fr hoa hf9 (by simp)).alloc (.cells #[.bool false, .slice (some ⟨g2, o2, none⟩) 1 a1, .slice B1 0 b1, .slice C1 0 c1] 26)
                      simp only [List.length_cons, List.length_nil]
                      generalize hw10 : w9.alloc (.cells #[.bool false, .slice (some ⟨g2, o2, none⟩) 1 a1, .slice B1 0 b1, .slice C1 0 c1] 26) = w10 at hQ1 hH10 hq10 hF10 hG10 hoa10
                      have qc0 := hQ1.cell 0 rfl
                      have qc1 := hQ1.cell 1 rfl
                      have qc2 := hQ1.cell 2 rfl
                      have qc3 := hQ1.cell 3 rfl
                      have qd0 := hQ1.frozen 0
                      have qd1 := hQ1.frozen 1
                      have qd2 := hQ1.frozen 2
                      have qd3 := hQ1.frozen 3
                      have q10 := hH10.cell 0 rfl
                      have y10 := hq10.get_ (k := 0) rfl
                      rw [Nat.add_zero] at y10
                      go_wp2_with fail
                      go_region_held3 (fun w' => w'.cell? ⟨w.heap.size, 0, none⟩ = some (.slice A P.length c) ∧ w'.cell? ⟨w9.heap.size, 1, none⟩ = some (.slice (some ⟨g2, o2, none⟩) 1 a1) ∧ w'.cell? ⟨g2, o2, none⟩ = some (.int .i64 vn))
                        (first
                          | go_keep
                          | (go_split_ands
                             exact ⟨hfa.cell (by assumption) (by simp), hfa.cell (by assumption) (by simp), hfa.cell (by assumption) (by simp)⟩))
                        (first
                          | (go_at_call 30; refine (refAncestors_any A c P vn _ (ha.fr0 (by repeat (first | exact Fr.refl _ _ | assumption | apply Fr.drewN | apply Fr.drew | apply Fr.alloc | refine Fr.setCell ?_ (by simp) _)))).mono ?_; rw [HVK.out]; rintro e w11 ⟨A11, c11, rfl, hfa, ho11⟩; have hFa : Fr [] w w11 := (Fr.trans (by repeat (first | exact Fr.refl _ _ | assumption | apply Fr.drewN | apply Fr.drew | apply Fr.alloc | refine Fr.setCell ?_ (by simp) _)) hfa); have hGa : Fr [] w10 w11 := (Fr.trans (by repeat (first | exact Fr.refl _ _ | assumption | apply Fr.drewN | apply Fr.drew | apply Fr.alloc | refine Fr.setCell ?_ (by simp) _)) hfa)))
                      have hQ11 := hQ1.fr hGa (by simp)
                      have q11 := hQ11.cell 1 rfl
                      have y11 := hGa.cell y10 (by simp)
                      have hoa11 := own_fr hoa10 hGa (by simp)
                      have r11 : Rd w11 (.int .i64) A11 c11 (ancOf P [(vn : Int)]) := (Rd.of_own ho11).2
                      have hbw := hb.fr0 hFa
                      have hG11 := hG10.trans hGa
                      have hzz := hG11.size
                      clear hQ1 q10 y10 qc0 qc1 qc2 qc3 qd0 qd1 qd2 qd3 hoa10 ho11 hH10 hq10 hF10 hfa hw10 hq1 hq2 hq3 hq1' hcy hH9 hF9 hG9
                      by_cases hbk : vn < brs.length ∧ brs[vn]? = some true
                      · obtain ⟨hbl, hbt⟩ := hbk
                        have dl : decide (vn < brs.length) = true := by simpa using hbl
                        obtain ⟨b7, o7, y7, rfl, hy7, hc7⟩ := hbw.at_ hbl
                        obtain rfl : true = y7 := by have := hy7.out.symm.trans hbt; simpa using this.symm
                        have HSAY : Hid (cuSay P first (inB brs) (vn : Int) = 3) := by show _ = _; unfold cuSay; rw [if_pos (inB_at hbt)]
                        have HWH : Hid ((whole && !inB brs (vn : Int)) = false) := by show _ = _; rw [inB_at hbt]; simp
                        clear hbt
                        go_wp2_with (at_builtin; refine wpList_append_rd rfl (.tmp 147) (.tmp 148) _ rfl elemVerdicts (.slice A6 ans.length c6) _ rfl ((hoa11.alloc _)) _ _ [(3 : Int)] (.int .u8) rfl (Rd.one_cell (by simp)) one_u8 (by simp; omega) (by simp; omega) ?_; intro A13 c13 w13 hown13 hg13 hat13)
                        go_roundg (gk - 1)
                        case measure => omega
                        case rel =>
                          have hc2 := HCU.out
                          rw [HSAY.out, HWH.out] at hc2
                          exact ⟨ans ++ [(3 : Int)], false, A13, c13, by simp, rfl, by simpa using hown13, hc2, by simp; omega, (hG11.alloc _).grown hg13 (fun k hk => .inr ((hoa11.lt k hk).1))⟩
                      · have HWH : Hid ((whole && !inB brs (vn : Int)) = whole) := by
                          have : inB brs (vn : Int) = false := by
                            cases hh : brs[vn]? with
                            | none => unfold inB; simp [hh]
                            | some y =>
                              rw [inB_at hh]
                              cases y
                              · rfl
                              · exact absurd ⟨(List.getElem?_eq_some_iff.1 hh).1, hh⟩ hbk
                          show _ = _
                          rw [this]; simp
                        have HSAY0 : Hid (cuSay P first (inB brs) (vn : Int) = if first ∈ ancOf P [(vn : Int)] then 2 else 1) := by
                          have : inB brs (vn : Int) = false := by
                            cases hh : brs[vn]? with
                            | none => unfold inB; simp [hh]
                            | some y =>
                              rw [inB_at hh]
                              cases y
                              · rfl
                              · exact absurd ⟨(List.getElem?_eq_some_iff.1 hh).1, hh⟩ hbk
                          show _ = _
                          unfold cuSay
                          rw [if_neg (by simp [this])]
                        have hway2 : decide (vn < brs.length) = false ∨ (decide (vn < brs.length) = true ∧ brs[vn]? = some false) := by
                          by_cases hbl : vn < brs.length
                          · right
                            refine ⟨by simpa using hbl, ?_⟩
                            cases hh : brs[vn] with
                            | false => rw [List.getElem?_eq_getElem hbl, hh]
                            | true => exact absurd ⟨hbl, by rw [List.getElem?_eq_getElem hbl, hh]⟩ hbk
                          · left; simpa using hbl
                        clear hbk
                        by_cases hfv : first ∈ ancOf P [(vn : Int)]
                        · have HSAY : Hid (cuSay P first (inB brs) (vn : Int) = 2) := HSAY0.out.trans (if_pos hfv)
                          have d9 : decide (first ∈ ancOf P [(vn : Int)]) = true := by simpa using hfv
                          clear HSAY0 hfv
                          rcases hway2 with dl | ⟨dl, hbf⟩
                          · go_wp2_with fail
                            refine (Has_any A11 c11 (ancOf P [(vn : Int)]) first _ r11).mono ?_
                            rw [d9]
                            rintro e w12 ⟨rfl, n12, rfl⟩
                            go_wp2_with (at_builtin; refine wpList_append_rd rfl (.tmp 154) (.tmp 155) _ rfl elemVerdicts (.slice A6 ans.length c6) _ rfl (own_drewN (hoa11.alloc _) _) _ _ [(2 : Int)] (.int .u8) rfl (Rd.one_cell (by simp)) one_u8 (by simp; omega) (by simp; omega) ?_; intro A13 c13 w13 hown13 hg13 hat13)
                            go_roundg (gk - 1)
                            case measure => omega
                            case rel =>
                              have hc2 := HCU.out
                              rw [HSAY.out, HWH.out] at hc2
                              exact ⟨ans ++ [(2 : Int)], whole, A13, c13, by simp, rfl, by simpa using hown13, hc2, by simp; omega, ((hG11.alloc _).drewN _).grown hg13 (fun k hk => .inr ((hoa11.lt k hk).1))⟩
                          · have hbl : vn < brs.length := by simpa using dl
                            obtain ⟨b7, o7, y7, rfl, hy7, hc7⟩ := hbw.at_ hbl
                            obtain rfl : false = y7 := by have := hy7.out.symm.trans hbf; simpa using this.symm
                            clear hbf
                            go_wp2_with fail
                            refine (Has_any A11 c11 (ancOf P [(vn : Int)]) first _ r11).mono ?_
                            rw [d9]
                            rintro e w12 ⟨rfl, n12, rfl⟩
                            go_wp2_with (at_builtin; refine wpList_append_rd rfl (.tmp 154) (.tmp 155) _ rfl elemVerdicts (.slice A6 ans.length c6) _ rfl (own_drewN (hoa11.alloc _) _) _ _ [(2 : Int)] (.int .u8) rfl (Rd.one_cell (by simp)) one_u8 (by simp; omega) (by simp; omega) ?_; intro A13 c13 w13 hown13 hg13 hat13)
                            go_roundg (gk - 1)
                            case measure => omega
                            case rel =>
                              have hc2 := HCU.out
                              rw [HSAY.out, HWH.out] at hc2
                              exact ⟨ans ++ [(2 : Int)], whole, A13, c13, by simp, rfl, by simpa using hown13, hc2, by simp; omega, ((hG11.alloc _).drewN _).grown hg13 (fun k hk => .inr ((hoa11.lt k hk).1))⟩
                        · have HSAY : Hid (cuSay P first (inB brs) (vn : Int) = 1) := HSAY0.out.trans (if_neg hfv)
                          have d9 : decide (first ∈ ancOf P [(vn : Int)]) = false := by simpa using hfv
                          clear HSAY0 hfv
                          rcases hway2 with dl | ⟨dl, hbf⟩
                          · go_wp2_with fail
                            refine (Has_any A11 c11 (ancOf P [(vn : Int)]) first _ r11).mono ?_
                            rw [d9]
                            rintro e w12 ⟨rfl, n12, rfl⟩
                            go_wp2_with (at_builtin; refine wpList_append_rd rfl (.tmp 124) (.tmp 125) _ rfl elemVerdicts (.slice A6 ans.length c6) _ rfl (own_drewN (hoa11.alloc _) _) _ _ [(1 : Int)] (.int .u8) rfl (Rd.one_cell (by simp)) one_u8 (by simp; omega) (by simp; omega) ?_; intro A13 c13 w13 hown13 hg13 hat13)
                            go_roundg (gk - 1)
                            case measure => omega
                            case rel =>
                              have hc2 := HCU.out
                              rw [HSAY.out, HWH.out] at hc2
                              exact ⟨ans ++ [(1 : Int)], whole, A13, c13, by simp, rfl, by simpa using hown13, hc2, by simp; omega, ((hG11.alloc _).drewN _).grown hg13 (fun k hk => .inr ((hoa11.lt k hk).1))⟩
                          · have hbl : vn < brs.length := by simpa using dl
                            obtain ⟨b7, o7, y7, rfl, hy7, hc7⟩ := hbw.at_ hbl
                            obtain rfl : false = y7 := by have := hy7.out.symm.trans hbf; simpa using this.symm
                            clear hbf
                            go_wp2_with fail
                            refine (Has_any A11 c11 (ancOf P [(vn : Int)]) first _ r11).mono ?_
                            rw [d9]
                            rintro e w12 ⟨rfl, n12, rfl⟩
                            go_wp2_with (at_builtin; refine wpList_append_rd rfl (.tmp 124) (.tmp 125) _ rfl elemVerdicts (.slice A6 ans.length c6) _ rfl (own_drewN (hoa11.alloc _) _) _ _ [(1 : Int)] (.int .u8) rfl (Rd.one_cell (by simp)) one_u8 (by simp; omega) (by simp; omega) ?_; intro A13 c13 w13 hown13 hg13 hat13)
                            go_roundg (gk - 1)
                            case measure => omega
                            case rel =>
                              have hc2 := HCU.out
                              rw [HSAY.out, HWH.out] at hc2
                              exact ⟨ans ++ [(1 : Int)], whole, A13, c13, by simp, rfl, by simpa using hown13, hc2, by simp; omega, ((hG11.alloc _).drewN _).grown hg13 (fun k hk => .inr ((hoa11.lt k hk).1))⟩
          · have d3 : decide (first ∈ ancOf P [(bn : Int)]) = false := by simpa using hfi
            clear hfi
            go_wp2_with fail
            refine (refCheckHistory_any A c P _ (ha.fr0 hF1)).mono ?_
            rintro e w2 ⟨rfl, hf2⟩
            have hF2 := hF1.trans hf2
            have q2 := (hH1.fr hf2 (by simp)).cell 0 rfl
            go_wp2_with fail
            refine (refAncestors_any A c P bn _ (ha.fr0 hF2)).mono ?_
            rw [HA.out]
            rintro e w3 ⟨A3, c3, rfl, hf3, ho3⟩
            simp only
            go_wp2_with fail
            refine (Has_any A3 c3 (ancOf P [(bn : Int)]) first _ (Rd.of_own ho3).2).mono ?_
            rw [d3]
            rintro e w4 ⟨rfl, n4, rfl⟩
            go_wp2_with fail
            refine (runs_any _).mono ?_
            rintro e w5 ⟨rfl, hf5⟩
            go_wp2
            go_ret
            exact ⟨rfl, ((hF2.trans hf3).drewN n4).trans hf5⟩
        · have HA := Lib.hid (anc_arg H1.out hbr)
          clear hbr
          go_wp2_with fail
          refine (refCheckHistory_any A c P _ (ha.fr0 hF1)).mono ?_
          rintro e w2 ⟨rfl, hf2⟩
          have hF2 := hF1.trans hf2
          have q2 := (hH1.fr hf2 (by simp)).cell 0 rfl
          go_wp2_with fail
          refine (refAncestors_any A c P bad _ (ha.fr0 hF2)).mono ?_
          rw [HA.out]
          rintro e w3 ⟨A3, c3, rfl, hf3, ho3⟩
          simp only
          go_wp2_with fail
          refine (runs_any _).mono ?_
          rintro e w5 ⟨rfl, hf5⟩
          go_wp2
          go_ret
          exact ⟨rfl, (hF2.trans hf3).trans hf5⟩
      · have e1 : (checkHist P != 0) = true := by simpa using h1
        clear h1
        go_wp2_with fail
        refine (refCheckHistory_any A c P _ (ha.fr0 hF1)).mono ?_
        rintro e w2 ⟨rfl, hf2⟩
        go_wp2_with fail
        refine (runs_any _).mono ?_
        rintro e w5 ⟨rfl, hf5⟩
        go_wp2
        go_ret
        exact ⟨rfl, (hF1.trans hf2).trans hf5⟩
  · go_wp2_with fail
    refine (runs_any _).mono ?_
    rintro e w2 ⟨rfl, hf2⟩
    go_wp2
    go_ret
    exact ⟨rfl, hF1.trans hf2⟩
end Go.Proofs.Ytjpbmbonccenfaa
