/- Culprits of the program. -/
import Derived.Test.YtjpbmbonccenfaaICul
namespace Go.Proofs.Ytjpbmbonccenfaa
open Go.RowKit
set_option linter.unusedVariables false

theorem enter_cul (args : Array Value) (w : World) : (callFunc 61 args).run Try.prog w = .ok (.enter 61 args) w := by
  simp [go_sem]
theorem culI_some {P : List (List Int)} (hP : ValH P) (ans : List Int) (T : Nat) : ∀ (t : Nat) (cand sk : List Int) (u : Nat), isSet P.length cand = true → (minus cand sk).length < t → culI P ans T t cand sk u ≠ none
  | 0, _, _, _, _, h => by omega
  | t + 1, cand, sk, u, hs, ht => by
    rw [culI]
    by_cases hn : chooseOf P cand sk < 0
    · rw [if_pos hn]; simp
    · rw [if_neg hn]
      have hok : CulOk P cand sk (fun _ => false) := ⟨hs, by simp⟩
      have hm := cul_mem hok hn
      rcases ver ans T u 3 with _ | ⟨x, u'⟩
      · simp
      · by_cases h2 : x = 2
        · simp only [h2, if_true]
          obtain ⟨h3, h4⟩ := cul_fail (m' := fun _ => false) hok hm (by simp)
          exact culI_some hP ans T t _ _ _ h3.set (by omega)
        · by_cases h1 : x = 1
          · simp only [h1, if_true]
            obtain ⟨h3, h4⟩ := cul_pass (m' := fun _ => false) hP hok hm (by simp)
            exact culI_some hP ans T t _ _ _ h3.set (by omega)
          · simp only [h2, h1, if_false]
            obtain ⟨h3, h4⟩ := cul_skip (m' := fun _ => false) hok hm (by simp)
            exact culI_some hP ans T t _ _ _ h3.set (by omega)
theorem RetQstF.drewN {B : Nat} {w w' : World} {r : Qst × Int} {e : Ending} (h : RetQstF B w r e w') (n : Nat) : RetQstF B w r e (w'.drewN n) := by
  obtain ⟨v, h1, h2, A, a, B', b, C, c, h3, ⟨h4, h5⟩, ⟨h6, h7⟩, h8, h9⟩ := h
  exact ⟨v, h1, h2.drewN n, A, a, B', b, C, c, h3, ⟨h4.drewN n, h5⟩, ⟨h6.drewN n, h7⟩, h8.drewN n, h9⟩
theorem cand0_le {P : List (List Int)} (good : List Int) (bad : Int) : (cand0 P good bad).length ≤ P.length := (set_inR (minus_set _ (anc_set _))).2
theorem cand0_set {P : List (List Int)} (good : List Int) (bad : Int) : isSet P.length (cand0 P good bad) = true := minus_set _ (anc_set _)

set_option maxRecDepth 100000 in
set_option maxHeartbeats 6400000 in
theorem Culprits_any (A G : Option Addr) (c d : Nat) (P : List (List Int)) (good : List Int) (bad times : Int) (D : Option Addr) (f : Nat) (ans : List Int) (w : World) (ha : Rss w A c P) (hg : Rd w (.int .i64) G d good) (hd : Rd w (.int .u8) D f ans) :
    Calls Try.prog 31 #[.agg #[.slice A P.length c], .slice G good.length d, .int .i64 bad, .int .i64 times, .slice D ans.length f] w (RetQstF w.heap.size w (culprits P good bad times ans)) := by
  have hn : ∀ W : World, Rd W (.int .i64) none 0 ([] : List Int) ∧ Nw w.heap.size none := fun W => ⟨Rd.nil_ W _, Nw.none_ _⟩
  have hmf : ∀ (fn : Fn) (first cap : Array Value) (w : World), (Instr.makeFunc fn first cap).run Try.prog w = .ok (.func fn first cap) w := fun _ _ _ _ => rfl
  obtain ⟨W, hW⟩ : ∃ W, W = ((((w.alloc (.cells #[.slice A P.length c] 57)).alloc (.cells #[.int .i64 bad] 3)).alloc (.cells #[.int .i64 times] 3)).alloc (.cells #[.bool false, .slice none 0 0, .slice none 0 0, .slice none 0 0] 26)) := ⟨_, rfl⟩
  have hsz : W.heap.size = w.heap.size + 4 := by rw [hW]; simp
  have hfW : Fr [] w W := by rw [hW]; exact (by repeat (first | exact Fr.refl _ _ | assumption | apply Fr.drewN | apply Fr.drew | apply Fr.alloc | refine Fr.setCell ?_ (by simp) _))
  have hbH : Blk W w.heap.size 57 #[.slice A P.length c] := by rw [hW]; exact (((Blk.new w _ _ _ rfl).alloc _).alloc _).alloc _
  have hbB : Blk W (w.heap.size + 1) 3 #[.int .i64 bad] := by rw [hW]; exact ((Blk.new (w.alloc _) _ _ _ (by simp)).alloc _).alloc _
  have hbT : Blk W (w.heap.size + 1 + 1) 3 #[.int .i64 times] := by rw [hW]; exact (Blk.new ((w.alloc _).alloc _) _ _ _ (by simp)).alloc _
  have hbQ : Blk W (w.heap.size + 1 + 1 + 1) 26 #[.bool false, .slice none 0 0, .slice none 0 0, .slice none 0 0] := by rw [hW]; exact Blk.new (((w.alloc _).alloc _).alloc _) _ _ _ (by simp)
  have HW := Lib.hid hW.symm
  clear hW
  have hck := CheckHistory_any A c P W (ha.fr0 hfW)
  by_cases h1 : checkHist P = 0
  · have hb1 : (checkHist P != 0) = false := by simp [h1]
    have HV := Lib.hid (valH h1)
    have hPn := HV.out.1
    have H1 := Lib.hid h1
    clear h1
    by_cases h2 : isSet P.length good = false ∨ bad < 0 ∨ P.length ≤ bad
    · have hR : Hid (culprits P good bad times ans = (qNone, 1)) := by
        show _ = _
        unfold culprits
        rw [if_neg (by simp [H1.out]), if_pos h2]
      rcases hs : isSet P.length good with _ | _
      · clear h2
        go_enter Try.func31, Try.ntmps31
        go_wp2_with fail
        rw [HW.out]
        refine hck.mono ?_
        rintro e w1 ⟨rfl, hf1⟩
        have hF1 := hfW.trans hf1
        have hH1 := hbH.fr hf1 (by simp)
        have hBB1 := hbB.fr hf1 (by simp)
        have hB1 := hbQ.fr hf1 (by simp)
        have q0 := hH1.cell 0 rfl
        have p0 := hBB1.cell 0 rfl
        go_wp2_with fail
        refine (rising_any G d good P.length _ (hg.fr0 hF1)).mono ?_
        rintro e w2 ⟨rfl, n2, rfl⟩
        have qc0 := hB1.cell 0 rfl
        have qc1 := hB1.cell 1 rfl
        have qc2 := hB1.cell 2 rfl
        have qc3 := hB1.cell 3 rfl
        have qd0 := hB1.frozen 0
        have qd1 := hB1.frozen 1
        have qd2 := hB1.frozen 2
        have qd3 := hB1.frozen 3
        go_wp2
        refine bodyPost_ret (results_qst rfl _ _ (w.heap.size + 1 + 1 + 1) rfl ((hB1.four _ _ _ _).drewN _)) rfl ?_
        rw [hR.out]
        exact (qstF_ret (r := (qNone, 1)) (by omega) (hfW.trans hf1) hB1 (hn _) (hn _) (hn _)).drewN _
      · rcases (by simpa [hs] using h2 : bad < 0 ∨ P.length ≤ bad) with h3 | h3
        · have d3 : decide (bad < 0) = true := by simpa using h3
          clear h2 h3
          go_enter Try.func31, Try.ntmps31
          go_wp2_with fail
          rw [HW.out]
          refine hck.mono ?_
          rintro e w1 ⟨rfl, hf1⟩
          have hF1 := hfW.trans hf1
          have hH1 := hbH.fr hf1 (by simp)
          have hBB1 := hbB.fr hf1 (by simp)
          have hB1 := hbQ.fr hf1 (by simp)
          have q0 := hH1.cell 0 rfl
          have p0 := hBB1.cell 0 rfl
          go_wp2_with fail
          refine (rising_any G d good P.length _ (hg.fr0 hF1)).mono ?_
          rintro e w2 ⟨rfl, n2, rfl⟩
          have qc0 := hB1.cell 0 rfl
          have qc1 := hB1.cell 1 rfl
          have qc2 := hB1.cell 2 rfl
          have qc3 := hB1.cell 3 rfl
          have qd0 := hB1.frozen 0
          have qd1 := hB1.frozen 1
          have qd2 := hB1.frozen 2
          have qd3 := hB1.frozen 3
          go_wp2
          refine bodyPost_ret (results_qst rfl _ _ (w.heap.size + 1 + 1 + 1) rfl ((hB1.four _ _ _ _).drewN _)) rfl ?_
          rw [hR.out]
          exact (qstF_ret (r := (qNone, 1)) (by omega) (hfW.trans hf1) hB1 (hn _) (hn _) (hn _)).drewN _
        · obtain ⟨bn, rfl⟩ : ∃ bn : Nat, bad = bn := ⟨bad.toNat, by omega⟩
          have d3 : decide ((bn : Int) < 0) = false := by simp
          have d4 : decide (P.length ≤ bn) = true := by simp; omega
          clear h2 h3
          go_enter Try.func31, Try.ntmps31
          go_wp2_with fail
          rw [HW.out]
          refine hck.mono ?_
          rintro e w1 ⟨rfl, hf1⟩
          have hF1 := hfW.trans hf1
          have hH1 := hbH.fr hf1 (by simp)
          have hBB1 := hbB.fr hf1 (by simp)
          have hB1 := hbQ.fr hf1 (by simp)
          have q0 := hH1.cell 0 rfl
          have p0 := hBB1.cell 0 rfl
          go_wp2_with fail
          refine (rising_any G d good P.length _ (hg.fr0 hF1)).mono ?_
          rintro e w2 ⟨rfl, n2, rfl⟩
          have qc0 := hB1.cell 0 rfl
          have qc1 := hB1.cell 1 rfl
          have qc2 := hB1.cell 2 rfl
          have qc3 := hB1.cell 3 rfl
          have qd0 := hB1.frozen 0
          have qd1 := hB1.frozen 1
          have qd2 := hB1.frozen 2
          have qd3 := hB1.frozen 3
          go_wp2
          refine bodyPost_ret (results_qst rfl _ _ (w.heap.size + 1 + 1 + 1) rfl ((hB1.four _ _ _ _).drewN _)) rfl ?_
          rw [hR.out]
          exact (qstF_ret (r := (qNone, 1)) (by omega) (hfW.trans hf1) hB1 (hn _) (hn _) (hn _)).drewN _
    · obtain ⟨bn, rfl⟩ : ∃ bn : Nat, bad = bn := ⟨bad.toNat, by omega⟩
      have hs : isSet P.length good = true := by
        cases h : isSet P.length good
        · exact absurd (.inl h) h2
        · rfl
      have hbn : bn < P.length := by omega
      obtain ⟨hsr, hsl⟩ := set_inR hs
      have HSR := Lib.hid hsr
      have hR0 : Hid (culprits P good bn times ans = if (bn : Int) ∉ cand0 P good bn then (qNone, 12) else if 4096 < ans.length then (qNone, 3)
          else finC ans (culI P ans (timesOf times).toNat ((cand0 P good bn).length + 1) (cand0 P good bn) [(bn : Int)] 0)) := by
        show _ = _
        unfold culprits
        rw [if_neg (by simp [H1.out]), if_neg h2]
      have d3 : decide ((bn : Int) < 0) = false := by simp
      have d4 : decide (P.length ≤ bn) = false := by simp; omega
      clear h2 hsr
      go_enter Try.func31, Try.ntmps31
      go_wp2_with fail
      rw [HW.out]
      refine hck.mono ?_
      rintro e w1 ⟨rfl, hf1⟩
      have hF1 := hfW.trans hf1
      have hH1 := hbH.fr hf1 (by simp)
      have hBB1 := hbB.fr hf1 (by simp)
      have hT1 := hbT.fr hf1 (by simp)
      have hB1 := hbQ.fr hf1 (by simp)
      have hz1 := hf1.size
      clear hbH hbB hbT hbQ hfW hf1 hck HW
      have q0 := hH1.cell 0 rfl
      have p0 := hBB1.cell 0 rfl
      go_wp2_with fail
      refine (rising_any G d good P.length _ (hg.fr0 hF1)).mono ?_
      rw [hs]
      rintro e w2 ⟨rfl, n2, rfl⟩
      go_wp2_with fail
      refine (ancestors_any A c P bn _ ((ha.fr0 hF1).drewN _) HV.out hbn).mono ?_
      rintro e w3 ⟨A3, c3, rfl, hf3, ho3⟩
      have hF3 := (hF1.drewN _).trans hf3
      have hH3 := (hH1.drewN _).fr hf3 (by simp)
      have hBB3 := (hBB1.drewN _).fr hf3 (by simp)
      have hT3 := (hT1.drewN _).fr hf3 (by simp)
      have hB3 := (hB1.drewN _).fr hf3 (by simp)
      have hz3 : W.heap.size ≤ w3.heap.size := Nat.le_trans hz1 hf3.size
      have r3 : Rd w3 (.int .i64) A3 c3 (ancOf P [(bn : Int)]) := (Rd.of_own ho3).2
      have hal : (ancOf P [(bn : Int)]).length ≤ P.length := (set_inR (anc_set _)).2
      clear hH1 hBB1 hT1 hB1 q0 p0 hF1 hf3 ho3 hz1
      have hgb := hg.bound
      have hz0 : w.heap.size + 4 ≤ w3.heap.size := by omega
      go_wp2_with fail
      go_loopw [49] (fun i wr => ∃ k : Nat, k ≤ good.length ∧ i = .int .i64 k ∧ CandAt wr w3.heap.size (fun _ => True) (candK P (good.take k) bn) ∧ Blk wr w.heap.size 57 #[.slice A P.length c] ∧ Blk wr (w.heap.size + 1) 3 #[.int .i64 bn] ∧ Blk wr (w.heap.size + 1 + 1) 3 #[.int .i64 times] ∧
        Blk wr (w.heap.size + 1 + 1 + 1) 26 #[.bool false, .slice none 0 0, .slice none 0 0, .slice none 0 0] ∧ Hid (∀ g ∈ good.take k, (bn : Int) ∉ ancOf P [g]) ∧ Fr [] w wr) (fun i _ => good.length - (intOf i).toNat)
      case atStart =>
        exact ⟨0, Nat.zero_le _, rfl, ⟨A3, c3, Blk.new w3 _ _ _ rfl, r3.alloc _, fun _ _ _ => trivial⟩, hH3.alloc _, hBB3.alloc _, hT3.alloc _, hB3.alloc _, (fun g hg => by simp at hg), hF3.alloc _⟩
      case round =>
        obtain ⟨k, hk, rfl, hcd, hH, hBB, hT, hB, hno, hf⟩ := hrel
        obtain ⟨A4, c4, hbk, hcr, _⟩ := hcd
        have q0 := hH.cell 0 rfl
        have p0 := hBB.cell 0 rfl
        have k0 := hbk.cell 0 rfl
        have k1 := hbk.frozen 0
        have hcs := candK_set (P := P) (good.take k) bn
        have hcl := (set_inR hcs).2
        clear hcs
        by_cases hlt : k < good.length
        · obtain ⟨b5, o5, g, rfl, hx, hc5⟩ := (hg.fr0 hf).at_ hlt
          have hgr := HSR.out g (List.mem_of_getElem? hx.out)
          obtain ⟨gn, rfl⟩ : ∃ gn : Nat, g = gn := ⟨g.toNat, by omega⟩
          go_wp2_with fail
          refine (ancestors_any A c P gn _ (ha.fr0 hf) HV.out (by omega)).mono ?_
          rintro e w5 ⟨A5, c5, rfl, hf5, ho5⟩
          have r5 : Rd w5 (.int .i64) A5 c5 (ancOf P [(gn : Int)]) := (Rd.of_own ho5).2
          have hf05 := hf.trans hf5
          have p5 := (hBB.fr hf5 (by simp)).cell 0 rfl
          clear q0 p0 k0 k1
          by_cases hcl2 : (bn : Int) ∈ ancOf P [(gn : Int)]
          · have hd : decide ((bn : Int) ∈ ancOf P [(gn : Int)]) = true := by simpa using hcl2
            have hR : Hid (culprits P good bn times ans = (qNone, 12)) := by
              refine hR0.out.trans (if_pos fun h => ?_)
              exact (clash_iff HV.out HSR.out ⟨by omega, by omega⟩).1 h _ (List.mem_of_getElem? hx.out) hcl2
            have hB5 := hB.fr hf5 (by simp)
            clear hcl2
            go_wp2_with fail
            refine (has_any A5 c5 (ancOf P [(gn : Int)]) bn _ r5).mono ?_
            rintro e w6 ⟨rfl, n6, rfl⟩
            have qc0 := hB5.cell 0 rfl
            have qc1 := hB5.cell 1 rfl
            have qc2 := hB5.cell 2 rfl
            have qc3 := hB5.cell 3 rfl
            have qd0 := hB5.frozen 0
            have qd1 := hB5.frozen 1
            have qd2 := hB5.frozen 2
            have qd3 := hB5.frozen 3
            go_wp2
            refine bodyPost_ret (results_qst rfl _ _ (w.heap.size + 1 + 1 + 1) rfl ((hB5.four _ _ _ _).drewN _)) rfl ?_
            rw [hR.out]
            exact (qstF_ret (r := (qNone, 12)) (by omega) hf05 hB5 (hn _) (hn _) (hn _)).drewN _
          · have hd : decide ((bn : Int) ∈ ancOf P [(gn : Int)]) = false := by simpa using hcl2
            have HNO : Hid (∀ g ∈ good.take (k + 1), (bn : Int) ∉ ancOf P [g]) := by
              show ∀ g ∈ good.take (k + 1), (bn : Int) ∉ ancOf P [g]
              rw [List.take_add_one, hx.out]
              intro g hg'
              rcases List.mem_append.1 hg' with h | h
              · exact hno.out g h
              · simp at h; subst h; exact hcl2
            have hck := Lib.hid (candK_snoc (P := P) (bad := (bn : Int)) hx)
            have hH5 := hH.fr hf5 (by simp)
            have hBB5 := hBB.fr hf5 (by simp)
            have hT5 := hT.fr hf5 (by simp)
            have hB5 := hB.fr hf5 (by simp)
            have hbk5 := hbk.fr hf5 (by simp)
            have k0 := hbk5.cell 0 rfl
            clear hcl2 hno
            go_wp2_with fail
            refine (has_any A5 c5 (ancOf P [(gn : Int)]) bn _ r5).mono ?_
            rintro e w6 ⟨rfl, n6, rfl⟩
            go_wp2_with fail
            refine (withoutN_any A4 A5 c4 c5 (candK P (good.take k) bn) (ancOf P [(gn : Int)]) _ ((hcr.fr0 hf5).drewN _) (r5.drewN _) (by omega)).mono ?_
            rintro e w7 ⟨A7, c7, rfl, hf7, ho7⟩
            rw [← hck.out] at ho7 ⊢
            have hf57 : Fr [] w5 w7 := ((Fr.refl _ _).drewN _).trans hf7
            have hbk7 := hbk5.fr hf57 (by simp)
            have k2 := hbk7.cell 0 rfl
            have k3 := hbk7.frozen 0
            clear k0 p5
            go_wp2_with fail
            go_roundw
            case rel =>
              have hz5 := hf05.size
              refine ⟨k + 1, by omega, by go_num, candAt_new hbk7 (own_base ho7 (Nat.le_refl _)) (fun _ _ _ => trivial) (by have := hbk5.lt; simpa using this), (hH5.fr hf57 (by simp)).far (p := ⟨w3.heap.size, 0, none⟩) (by show w.heap.size ≠ w3.heap.size; omega) _, (hBB5.fr hf57 (by simp)).far (p := ⟨w3.heap.size, 0, none⟩) (by show w.heap.size + 1 ≠ w3.heap.size; omega) _,
                (hT5.fr hf57 (by simp)).far (p := ⟨w3.heap.size, 0, none⟩) (by show w.heap.size + 1 + 1 ≠ w3.heap.size; omega) _, (hB5.fr hf57 (by simp)).far (p := ⟨w3.heap.size, 0, none⟩) (by show w.heap.size + 1 + 1 + 1 ≠ w3.heap.size; omega) _, HNO.out, (hf05.trans hf57).setCell (p := ⟨w3.heap.size, 0, none⟩) (.inr hF3.size) _⟩
            case measure => simp [intOf]; omega
        · have hke : k = good.length := by omega
          rw [List.take_of_length_le (by omega)] at hcr hbk k0 hno hcl
          have hcK := candK_all HV.out HSR.out (bn : Int)
          rw [hcK] at hcr hbk k0 hcl
          have hyes : (bn : Int) ∈ cand0 P good bn := (clash_iff HV.out HSR.out ⟨by omega, by omega⟩).2 hno.out
          have hR1 : Hid (culprits P good bn times ans = if 4096 < ans.length then (qNone, 3) else finC ans (culI P ans (timesOf times).toNat ((cand0 P good bn).length + 1) (cand0 P good bn) [(bn : Int)] 0)) := by
            show _ = _
            rw [hR0.out, if_neg (by simpa using hyes)]
          have hcs0 := Lib.hid (cand0_set (P := P) good (bn : Int))
          clear hcK hyes hno hR0
          generalize cand0 P good bn = cand at *
          have hw3r : w3.heap.size < wr.heap.size := hbk.lt
          have hCA : CandAt wr w3.heap.size (fun b => b < wr.heap.size) cand := ⟨A4, c4, hbk, hcr, fun h0 a ha => hcr.lt h0 a ha⟩
          have hdr := hd.fr0 hf
          by_cases h4 : 4096 < ans.length
          · have hR : Hid (culprits P good bn times ans = (qNone, 3)) := hR1.out.trans (if_pos h4)
            clear hR1
            go_wp2_with fail
            refine (run_limit _ D f ans _ hdr h4).mono ?_
            rintro e w5 ⟨rfl, hf5⟩
            have hbk5 := hbk.fr hf5 (by simp)
            have k5 := hbk5.cell 0 rfl
            have hB5 := hB.fr hf5 (by simp)
            have hf05 := hf.trans hf5
            clear k0 k1 q0 p0
            go_wp2_with fail
            refine (quest_any none A4 0 c4 [] cand false 3 _ (Rd.nil_ _ _) (hcr.fr0 hf5) (by omega) w.heap.size hf05.size (Nw.none_ _)).mono ?_
            rintro e w6 ⟨vq, rfl, hf6, A1, a1, B1, b1, C1, c1, rfl, hq1, hq2, hq3⟩
            have hB6 := hB5.fr hf6 (by simp)
            have qc0 := hB6.cell 0 rfl
            have qc1 := hB6.cell 1 rfl
            have qc2 := hB6.cell 2 rfl
            have qc3 := hB6.cell 3 rfl
            have qd0 := hB6.frozen 0
            have qd1 := hB6.frozen 1
            have qd2 := hB6.frozen 2
            have qd3 := hB6.frozen 3
            go_wp2
            refine bodyPost_ret (results_qst rfl _ _ (w.heap.size + 1 + 1 + 1) rfl (hB6.four _ _ _ _)) rfl ?_
            rw [hR.out, show (qNone, (3 : Int)) = questOf [] cand false 3 by simp [questOf]]
            exact qstF_ret (by omega) (hf05.trans hf6) hB6 hq1 hq2 hq3
          · have hR : Hid (culprits P good bn times ans = finC ans (culI P ans (timesOf times).toNat (cand.length + 1) cand [(bn : Int)] 0)) := hR1.out.trans (if_neg h4)
            clear hR1
            have hS : ∀ x ∈ [w3.heap.size], x < wr.heap.size := by simp; omega
            have hw3ge : w.heap.size ≤ w3.heap.size := by omega
            have hdo : ∀ w1, AtDo wr w1 ans → Calls Try.prog 61 (#[.pointer (some ⟨wr.heap.size + 1 + 1, 0, none⟩)] ++ #[.pointer (some ⟨w.heap.size + 1 + 1, 0, none⟩), .pointer (some ⟨w.heap.size + 1, 0, none⟩), .pointer (some ⟨w.heap.size, 0, none⟩), .pointer (some ⟨w3.heap.size, 0, none⟩)]) w1
                (CulDo w1 (wr.heap.size + 1 + 1) (wr.heap.size + 1) w3.heap.size wr.heap.size (wr.heap.size + 3) ans (culI P ans (timesOf times).toNat (cand.length + 1) cand [(bn : Int)] 0)) := fun w1 hat => by
              have hz := hat.size
              rw [← hz]
              exact culdo_any (wr.heap.size + 1 + 1) (wr.heap.size + 1) _ _ _ w3.heap.size wr.heap.size times ans w w1 A c P cand bn ha HV.out (hf.trans hat.fr) (by have := hf.size; omega) hw3ge hat.srch (hT.fr hat.fr (by simp)) (hBB.fr hat.fr (by simp)) (hH.fr hat.fr (by simp)) ((hCA.imp (fun b _ h => .inl h)).fr0 hat.fr) hcs0.out (by omega) (by omega) (by omega)
            have hso := culI_some HV.out ans (timesOf times).toNat (cand.length + 1) cand [(bn : Int)] 0 hcs0.out (by have := minus_le cand [(bn : Int)]; omega)
            obtain ⟨full, hful⟩ : ∃ f, culI P ans (timesOf times).toNat (cand.length + 1) cand [(bn : Int)] 0 = f := ⟨_, rfl⟩
            rw [hful] at hso hdo
            have HFUL := Lib.hid hful
            have h4' : ans.length ≤ 4096 := by omega
            have hws := hf.size
            clear hful h4 k0 k1 q0 p0 hH hBB hT
            rcases full with _ | (v | ⟨cd, u⟩)
            · exact absurd rfl hso
            · go_wp2_with fail
              refine (run_ask wr D f ans 61 _ _ hS _ [v] hdr h4' enter_cul hdo).mono ?_
              rintro e w5 ⟨A2, c2, rfl, hr2, hf5, hnw, wd, ⟨cd, hcd, hcdl⟩, hfd⟩
              clear hdo
              have hcd5 := hcd.fr hfd (by simp; omega) (by intro x hx; simp at hx; subst hx; exact .inl (out_s (Nat.le_refl _) (by omega)))
              obtain ⟨A6, c6, hbk6, hcr6, _⟩ := hcd5
              have k5 := hbk6.cell 0 rfl
              have hB5 := hB.fr hf5 (by simp; omega)
              have hf05 : Fr [] w w5 := hf.trans2 hf5 (by simp; omega)
              go_wp2_with fail
              refine (quest_any A2 A6 c2 c6 [v] cd false 0 _ hr2 hcr6 (by omega) w.heap.size hf05.size (hnw.mono hws)).mono ?_
              rintro e w6 ⟨vq, rfl, hf6, A1, a1, B1, b1, C1, c1, rfl, hq1, hq2, hq3⟩
              have hB6 := hB5.fr hf6 (by simp)
              have qc0 := hB6.cell 0 rfl
              have qc1 := hB6.cell 1 rfl
              have qc2 := hB6.cell 2 rfl
              have qc3 := hB6.cell 3 rfl
              have qd0 := hB6.frozen 0
              have qd1 := hB6.frozen 1
              have qd2 := hB6.frozen 2
              have qd3 := hB6.frozen 3
              go_wp2
              refine bodyPost_ret (results_qst rfl _ _ (w.heap.size + 1 + 1 + 1) rfl (hB6.four _ _ _ _)) rfl ?_
              rw [hR.out, HFUL.out, show finC ans (some (.inl v)) = questOf [v] cd false 0 by simp [finC, questOf]]
              exact qstF_ret (by omega) (hf05.trans hf6) hB6 hq1 hq2 hq3
            · go_wp2_with fail
              refine (run_end wr D f ans 61 _ _ hS _ 0 u hdr h4' enter_cul hdo).mono ?_
              rintro e w5 ⟨rfl, hf5, wd, ⟨hcd, hcdl⟩, hfd⟩
              clear hdo
              have hcd5 := hcd.fr hfd (by simp; omega) (by intro x hx; simp at hx; subst hx; exact .inl (out_s (Nat.le_refl _) (by omega)))
              obtain ⟨A6, c6, hbk6, hcr6, _⟩ := hcd5
              have k5 := hbk6.cell 0 rfl
              have hB5 := hB.fr hf5 (by simp; omega)
              have hf05 : Fr [] w w5 := hf.trans2 hf5 (by simp; omega)
              generalize hdn : decide ((0 : Int) = 0 ∧ ans.length ≤ u) = dn
              generalize her : (if (0 : Int) ≠ 0 then (0 : Int) else if u < ans.length then 8 else 0) = er2
              have HD := Lib.hid hdn
              have HE := Lib.hid her
              clear hdn her
              go_wp2_with fail
              refine (quest_any none A6 0 c6 [] cd dn er2 _ (Rd.nil_ _ _) hcr6 (by omega) w.heap.size hf05.size (Nw.none_ _)).mono ?_
              rintro e w6 ⟨vq, rfl, hf6, A1, a1, B1, b1, C1, c1, rfl, hq1, hq2, hq3⟩
              have hB6 := hB5.fr hf6 (by simp)
              have qc0 := hB6.cell 0 rfl
              have qc1 := hB6.cell 1 rfl
              have qc2 := hB6.cell 2 rfl
              have qc3 := hB6.cell 3 rfl
              have qd0 := hB6.frozen 0
              have qd1 := hB6.frozen 1
              have qd2 := hB6.frozen 2
              have qd3 := hB6.frozen 3
              go_wp2
              refine bodyPost_ret (results_qst rfl _ _ (w.heap.size + 1 + 1 + 1) rfl (hB6.four _ _ _ _)) rfl ?_
              rw [hR.out, HFUL.out, show finC ans (some (.inr (cd, u))) = questOf [] cd dn er2 by
                rw [← HD.out, ← HE.out]
                simp only [finC]
                exact (quest_end 0 u ans.length cd).trans (by simp)]
              exact qstF_ret (by omega) (hf05.trans hf6) hB6 hq1 hq2 hq3
  · have hb1 : (checkHist P != 0) = true := by simpa using h1
    have hR : Hid (culprits P good bad times ans = (qNone, checkHist P)) := by
      show _ = _
      unfold culprits
      rw [if_pos h1]
    clear h1
    go_enter Try.func31, Try.ntmps31
    go_wp2_with fail
    rw [HW.out]
    refine hck.mono ?_
    rintro e w1 ⟨rfl, hf1⟩
    have hB1 := hbQ.fr hf1 (by simp)
    have qc0 := hB1.cell 0 rfl
    have qc1 := hB1.cell 1 rfl
    have qc2 := hB1.cell 2 rfl
    have qc3 := hB1.cell 3 rfl
    have qd0 := hB1.frozen 0
    have qd1 := hB1.frozen 1
    have qd2 := hB1.frozen 2
    have qd3 := hB1.frozen 3
    go_wp2
    refine bodyPost_ret (results_qst rfl _ _ (w.heap.size + 1 + 1 + 1) rfl (hB1.four _ _ _ _)) rfl ?_
    rw [hR.out]
    exact qstF_ret (r := (qNone, checkHist P)) (by omega) (hfW.trans hf1) hB1 (hn _) (hn _) (hn _)
end Go.Proofs.Ytjpbmbonccenfaa
