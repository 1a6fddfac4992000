/- Culprits of the reference. -/
import Derived.Test.YtjpbmbonccenfaaICul2
namespace Go.Proofs.Ytjpbmbonccenfaa
open Go.RowKit
set_option linter.unusedVariables false

theorem RetQst.drewN {w w' : World} {r : Qst × Int} {e : Ending} (h : RetQst w r e w') (n : Nat) : RetQst w r e (w'.drewN n) := by
  obtain ⟨v, h1, h2, A, a, B', b, C, c, h3, h4, h5, h6⟩ := h
  exact ⟨v, h1, h2.drewN n, A, a, B', b, C, c, h3, h4.drewN n, h5.drewN n, h6.drewN n⟩
/-- A slice of numbers that lies apart from a block. -/
def RdOff (W : World) (bp : Nat) (v : Value) (xs : List Int) : Prop := ∃ A c, v = .slice A xs.length c ∧ Rd W (.int .i64) A c xs ∧ (0 < xs.length → ∀ a, A = some a → a.block ≠ bp)
theorem RdOff.fr {W W' : World} {bp : Nat} {v : Value} {xs : List Int} (h : RdOff W bp v xs) (hf : Fr [bp] W W') : RdOff W' bp v xs := by
  obtain ⟨A, c, h1, h2, h3⟩ := h
  exact ⟨A, c, h1, h2.fr hf (fun h0 a ha => by simpa using h3 h0 a ha), h3⟩
theorem RdOff.fr0 {W W' : World} {bp : Nat} {v : Value} {xs : List Int} (h : RdOff W bp v xs) (hf : Fr [] W W') : RdOff W' bp v xs := by
  obtain ⟨A, c, h1, h2, h3⟩ := h
  exact ⟨A, c, h1, h2.fr0 hf, h3⟩
theorem rdOff_new {W : World} {B bp n c : Nat} {A : Option Addr} {xs : List Int} (h : W.ownsRow B 3 1 (.slice A n c) n (xs.map (.int .i64))) (hb : bp < B) : RdOff W bp (.slice A n c) xs := by
  obtain ⟨hn, hr⟩ := Rd.of_own h
  subst hn
  exact ⟨A, c, rfl, hr, fun _ a ha => own_apart h hb a ha⟩
/-- Between two rounds. -/
def RCulInv (w : World) (P : List (List Int)) (Av : Value) (T : Nat) (ans : List Int) (full : Option (Int ⊕ (List Int × Nat))) (bp : Nat) (t : Nat) (cv sv : Value) (wr : World) : Prop :=
  ∃ (cand skip sk : List Int) (u : Nat), RdOff wr bp cv cand ∧ RdOff wr bp sv skip ∧ u ≤ ans.length ∧ (minus cand sk).length < t ∧ Hid (∀ x, x ∈ sk ↔ x ∈ skip) ∧ isSet P.length cand = true ∧ isSet P.length skip = true ∧
    Hid (full = culI P ans T t cand sk u) ∧ Play wr bp ans u (.slice none 0 0) (.slice none 0 0) false [] ∧ Blk wr w.heap.size 57 #[Av] ∧ Blk wr (w.heap.size + 1) 26 #[.bool false, .slice none 0 0, .slice none 0 0, .slice none 0 0] ∧ Fr [] w wr

set_option maxRecDepth 100000 in
set_option maxHeartbeats 6400000 in
theorem refCulprits_any (A G : Option Addr) (c d : Nat) (P : List (List Int)) (good : List Int) (bad times : Int) (D : Option Addr) (f : Nat) (ans : List Int) (w : World) (ha : Rss w A c P) (hg : Rd w (.int .i64) G d good) (hd : Rd w (.int .u8) D f ans) :
    Calls Try.prog 37 #[.agg #[.slice A P.length c], .slice G good.length d, .int .i64 bad, .int .i64 times, .slice D ans.length f] w (RetQst w (culprits P good bad times ans)) := by
  have hn : ∀ W : World, Rd W (.int .i64) none 0 ([] : List Int) := fun W => Rd.nil_ W _
  obtain ⟨W, hW⟩ : ∃ W, W = ((w.alloc (.cells #[.slice A P.length c] 57)).alloc (.cells #[.bool false, .slice none 0 0, .slice none 0 0, .slice none 0 0] 26)) := ⟨_, rfl⟩
  have hsz : W.heap.size = w.heap.size + 2 := by rw [hW]; simp
  have hfW : Fr [] w W := by rw [hW]; exact (by repeat (first | exact Fr.refl _ _ | assumption | apply Fr.drewN | apply Fr.drew | apply Fr.alloc | refine Fr.setCell ?_ (by simp) _))
  have hbH : Blk W w.heap.size 57 #[.slice A P.length c] := by rw [hW]; exact (Blk.new w _ _ _ rfl).alloc _
  have hbQ : Blk W (w.heap.size + 1) 26 #[.bool false, .slice none 0 0, .slice none 0 0, .slice none 0 0] := by rw [hW]; exact Blk.new (w.alloc _) _ _ _ (by simp)
  have HW := Lib.hid hW.symm
  clear hW
  have hck := refCheckHistory_any A c P W (ha.fr0 hfW)
  by_cases h1 : checkHist P = 0
  · have hb1 : (checkHist P != 0) = false := by simp [h1]
    have HV := Lib.hid (valH h1)
    have hPn := HV.out.1
    have H1 := Lib.hid h1
    clear h1
    by_cases h2 : isSet P.length good = false ∨ bad < 0 ∨ P.length ≤ bad
    · have hR : Hid (culprits P good bad times ans = (qNone, 1)) := by
        show _ = _
        unfold culprits
        rw [if_neg (by simp [H1.out]), if_pos h2]
      rcases hs : isSet P.length good with _ | _
      · clear h2
        go_enter Try.func37, Try.ntmps37
        go_wp2_with fail
        rw [HW.out]
        refine hck.mono ?_
        rintro e w1 ⟨rfl, hf1⟩
        have hF1 := hfW.trans hf1
        have hH1 := hbH.fr hf1 (by simp)
        have hB1 := hbQ.fr hf1 (by simp)
        have q0 := hH1.cell 0 rfl
        go_wp2_with fail
        refine (Set_any G d good P.length _ (hg.fr0 hF1)).mono ?_
        rintro e w2 ⟨rfl, n2, rfl⟩
        have qc0 := hB1.cell 0 rfl
        have qc1 := hB1.cell 1 rfl
        have qc2 := hB1.cell 2 rfl
        have qc3 := hB1.cell 3 rfl
        have qd0 := hB1.frozen 0
        have qd1 := hB1.frozen 1
        have qd2 := hB1.frozen 2
        have qd3 := hB1.frozen 3
        go_wp2
        refine bodyPost_ret (results_qst rfl _ _ (w.heap.size + 1) rfl ((hB1.four _ _ _ _).drewN _)) rfl ?_
        rw [hR.out]
        exact (qst_ret (r := (qNone, 1)) (by omega) (hfW.trans hf1) hB1 (hn _) (hn _) (hn _)).drewN _
      · rcases (by simpa [hs] using h2 : bad < 0 ∨ P.length ≤ bad) with h3 | h3
        · have d3 : decide (bad < 0) = true := by simpa using h3
          clear h2 h3
          go_enter Try.func37, Try.ntmps37
          go_wp2_with fail
          rw [HW.out]
          refine hck.mono ?_
          rintro e w1 ⟨rfl, hf1⟩
          have hF1 := hfW.trans hf1
          have hH1 := hbH.fr hf1 (by simp)
          have hB1 := hbQ.fr hf1 (by simp)
          have q0 := hH1.cell 0 rfl
          go_wp2_with fail
          refine (Set_any G d good P.length _ (hg.fr0 hF1)).mono ?_
          rintro e w2 ⟨rfl, n2, rfl⟩
          have qc0 := hB1.cell 0 rfl
          have qc1 := hB1.cell 1 rfl
          have qc2 := hB1.cell 2 rfl
          have qc3 := hB1.cell 3 rfl
          have qd0 := hB1.frozen 0
          have qd1 := hB1.frozen 1
          have qd2 := hB1.frozen 2
          have qd3 := hB1.frozen 3
          go_wp2
          refine bodyPost_ret (results_qst rfl _ _ (w.heap.size + 1) rfl ((hB1.four _ _ _ _).drewN _)) rfl ?_
          rw [hR.out]
          exact (qst_ret (r := (qNone, 1)) (by omega) (hfW.trans hf1) hB1 (hn _) (hn _) (hn _)).drewN _
        · obtain ⟨bn, rfl⟩ : ∃ bn : Nat, bad = bn := ⟨bad.toNat, by omega⟩
          have d3 : decide ((bn : Int) < 0) = false := by simp
          have d4 : decide (P.length ≤ bn) = true := by simp; omega
          clear h2 h3
          go_enter Try.func37, Try.ntmps37
          go_wp2_with fail
          rw [HW.out]
          refine hck.mono ?_
          rintro e w1 ⟨rfl, hf1⟩
          have hF1 := hfW.trans hf1
          have hH1 := hbH.fr hf1 (by simp)
          have hB1 := hbQ.fr hf1 (by simp)
          have q0 := hH1.cell 0 rfl
          go_wp2_with fail
          refine (Set_any G d good P.length _ (hg.fr0 hF1)).mono ?_
          rintro e w2 ⟨rfl, n2, rfl⟩
          have qc0 := hB1.cell 0 rfl
          have qc1 := hB1.cell 1 rfl
          have qc2 := hB1.cell 2 rfl
          have qc3 := hB1.cell 3 rfl
          have qd0 := hB1.frozen 0
          have qd1 := hB1.frozen 1
          have qd2 := hB1.frozen 2
          have qd3 := hB1.frozen 3
          go_wp2
          refine bodyPost_ret (results_qst rfl _ _ (w.heap.size + 1) rfl ((hB1.four _ _ _ _).drewN _)) rfl ?_
          rw [hR.out]
          exact (qst_ret (r := (qNone, 1)) (by omega) (hfW.trans hf1) hB1 (hn _) (hn _) (hn _)).drewN _
    · obtain ⟨bn, rfl⟩ : ∃ bn : Nat, bad = bn := ⟨bad.toNat, by omega⟩
      have hs : isSet P.length good = true := by
        cases h : isSet P.length good
        · exact absurd (.inl h) h2
        · rfl
      have hbn : bn < P.length := by omega
      obtain ⟨hsr, hsl⟩ := set_inR hs
      have HSR := Lib.hid hsr
      have hR0 : Hid (culprits P good bn times ans = if (bn : Int) ∉ cand0 P good bn then (qNone, 12) else if 4096 < ans.length then (qNone, 3)
          else finC ans (culI P ans (timesOf times).toNat ((cand0 P good bn).length + 1) (cand0 P good bn) [(bn : Int)] 0)) := by
        show _ = _
        unfold culprits
        rw [if_neg (by simp [H1.out]), if_neg h2]
      have d3 : decide ((bn : Int) < 0) = false := by simp
      have d4 : decide (P.length ≤ bn) = false := by simp; omega
      clear h2 hsr
      go_enter Try.func37, Try.ntmps37
      go_wp2_with fail
      rw [HW.out]
      refine hck.mono ?_
      rintro e w1 ⟨rfl, hf1⟩
      have hF1 := hfW.trans hf1
      have hH1 := hbH.fr hf1 (by simp)
      have hB1 := hbQ.fr hf1 (by simp)
      have hz1 := hf1.size
      clear hbH hbQ hfW hf1 hck HW
      have q0 := hH1.cell 0 rfl
      go_wp2_with fail
      refine (Set_any G d good P.length _ (hg.fr0 hF1)).mono ?_
      rw [hs]
      rintro e w2 ⟨rfl, n2, rfl⟩
      have hP0 : 0 < P.length := by omega
      go_wp2_with fail
      go_region_held3 (fun w' => w'.cell? ⟨w.heap.size, 0, none⟩ = some (.slice A P.length c))
        (first
          | go_keep
          | exact hfa.cell (by assumption) (by simp)
          | exact hfb.cell (by assumption) (by simp)
          | exact hfc.cell (by assumption) (by simp))
        (first
          | (go_at_call 58; (with_reducible show Calls _ _ #[_, .slice G good.length d] _ _); refine (refancestors_any A G c d P good _ (ha.fr0 (by repeat (first | exact Fr.refl _ _ | assumption | apply Fr.drewN | apply Fr.drew | apply Fr.alloc | refine Fr.setCell ?_ (by simp) _))) (hg.fr0 (by repeat (first | exact Fr.refl _ _ | assumption | apply Fr.drewN | apply Fr.drew | apply Fr.alloc | refine Fr.setCell ?_ (by simp) _))) HV.out HSR.out (by omega)).mono ?_; rintro e w6 ⟨A6, c6, rfl, hfb, ho6⟩; have hFb : Fr [] w w6 := (Fr.trans (by repeat (first | exact Fr.refl _ _ | assumption | apply Fr.drewN | apply Fr.drew | apply Fr.alloc | refine Fr.setCell ?_ (by simp) _)) hfb); have hGb : Fr [] w1 w6 := (Fr.trans (by repeat (first | exact Fr.refl _ _ | assumption | apply Fr.drewN | apply Fr.drew | apply Fr.alloc | refine Fr.setCell ?_ (by simp) _)) hfb))
          | (go_at_call 58; refine (refancestors_any A _ c 1 P [(bn : Int)] _ (ha.fr0 (by repeat (first | exact Fr.refl _ _ | assumption | apply Fr.drewN | apply Fr.drew | apply Fr.alloc | refine Fr.setCell ?_ (by simp) _))) (Rd.one_cell (by simp)) HV.out (fun x hx => by simp at hx; omega) (by omega)).mono ?_; rintro e w5 ⟨A5, c5, rfl, hfa, ho5⟩; have hFa : Fr [] w w5 := (Fr.trans (by repeat (first | exact Fr.refl _ _ | assumption | apply Fr.drewN | apply Fr.drew | apply Fr.alloc | refine Fr.setCell ?_ (by simp) _)) hfa); have hGa : Fr [] w1 w5 := (Fr.trans (by repeat (first | exact Fr.refl _ _ | assumption | apply Fr.drewN | apply Fr.drew | apply Fr.alloc | refine Fr.setCell ?_ (by simp) _)) hfa))
          | (go_at_call 25; refine (MinusR_any A5 A6 c5 c6 (ancOf P [(bn : Int)]) (ancOf P good) _ (by first | exact (Rd.of_own ho5).2.fr0 (by repeat (first | exact Fr.refl _ _ | assumption | apply Fr.drewN | apply Fr.drew | apply Fr.alloc | refine Fr.setCell ?_ (by simp) _)) | exact (Rd.of_own ho5).2.fr0 (Fr.trans (by repeat (first | exact Fr.refl _ _ | assumption | apply Fr.drewN | apply Fr.drew | apply Fr.alloc | refine Fr.setCell ?_ (by simp) _)) hfb)) (by first | exact (Rd.of_own ho6).2.fr0 (by repeat (first | exact Fr.refl _ _ | assumption | apply Fr.drewN | apply Fr.drew | apply Fr.alloc | refine Fr.setCell ?_ (by simp) _)) | exact (Rd.of_own ho6).2.fr0 (Fr.trans (by repeat (first | exact Fr.refl _ _ | assumption | apply Fr.drewN | apply Fr.drew | apply Fr.alloc | refine Fr.setCell ?_ (by simp) _)) hfa)) (by have := (set_inR (anc_set (P := P) [(bn : Int)])).2; omega)).mono ?_; rintro e w7 ⟨A7, c7, rfl, hfc, ho7⟩; have hFc : Fr [] w w7 := (Fr.trans (by repeat (first | exact Fr.refl _ _ | assumption | apply Fr.drewN | apply Fr.drew | apply Fr.alloc | refine Fr.setCell ?_ (by simp) _)) hfc); have hGc : Fr [] w1 w7 := (Fr.trans (by repeat (first | exact Fr.refl _ _ | assumption | apply Fr.drewN | apply Fr.drew | apply Fr.alloc | refine Fr.setCell ?_ (by simp) _)) hfc)))
      have hcs := cand0_set (P := P) good (bn : Int)
      have hcl := (set_inR hcs).2
      have hH7 := hH1.fr hGc (by simp)
      have hB7 := hB1.fr hGc (by simp)
      have r7 : Rd w7 (.int .i64) A7 c7 (cand0 P good bn) := (Rd.of_own ho7).2
      rw [show minus (ancOf P [(bn : Int)]) (ancOf P good) = cand0 P good bn from rfl]
      have hz7 := hFc.size
      have hd7 := hd.fr0 hFc
      have HFc := hFc
      have hbpw := hB7.lt
      clear ho7 ho5 ho6 hfa hfb hfc hFa hFb hGa hGb hGc hH1 hB1 q0 hF1 hz1 hFc
      generalize cand0 P good bn = cand at *
      by_cases hbc : (bn : Int) ∈ cand
      · have hd1 : decide ((bn : Int) ∈ cand) = true := by simpa using hbc
        have hR1 : Hid (culprits P good bn times ans = if 4096 < ans.length then (qNone, 3) else finC ans (culI P ans (timesOf times).toNat (cand.length + 1) cand [(bn : Int)] 0)) := by
          show _ = _
          rw [hR0.out, if_neg (by simpa using hbc)]
        clear hR0 hbc
        go_wp2_with fail
        refine (Has_any A7 c7 cand bn _ r7).mono ?_
        rw [hd1]
        rintro e w8 ⟨rfl, n8, rfl⟩
        go_wp2_with fail
        refine (begin_any D f ans _ (hd7.drewN n8)).mono ?_
        rintro e w9 ⟨rfl, hf9, hp9⟩
        have hf79 : Fr [] w7 w9 := ((Fr.refl _ _).drewN n8).trans hf9
        have hF9 : Fr [] w w9 := Fr.trans (by repeat (first | exact Fr.refl _ _ | assumption | apply Fr.drewN | apply Fr.drew | apply Fr.alloc | refine Fr.setCell ?_ (by simp) _)) hf79
        have hH9 := hH7.fr hf79 (by simp)
        have hB9 := hB7.fr hf79 (by simp)
        have r9 := r7.fr0 hf79
        have hbp : ∀ a, A7 = some a → 0 < cand.length → a.block < w7.heap.size := fun a ha h0 => r7.lt h0 a ha
        have hz9 := hf79.size
        by_cases h4 : 4096 < ans.length
        · have hd2 : decide (ans.length ≤ 4096) = false := by simp; omega
          have hR : Hid (culprits P good bn times ans = (qNone, 3)) := hR1.out.trans (if_pos h4)
          have qc0 := hB9.cell 0 rfl
          have qc1 := hB9.cell 1 rfl
          have qc2 := hB9.cell 2 rfl
          have qc3 := hB9.cell 3 rfl
          have qd0 := hB9.frozen 0
          have qd1 := hB9.frozen 1
          have qd2 := hB9.frozen 2
          have qd3 := hB9.frozen 3
          clear h4 hR1
          go_wp2
          refine bodyPost_ret (results_qst rfl _ _ (w.heap.size + 1) rfl (hB9.four _ _ _ _)) rfl ?_
          rw [hR.out]
          exact qst_ret (r := (qNone, 3)) (by omega) hF9 hB9 (hn _) (hn _) (hn _)
        · have hd2 : decide (ans.length ≤ 4096) = true := by simp; omega
          have hR : Hid (culprits P good bn times ans = finC ans (culI P ans (timesOf times).toNat (cand.length + 1) cand [(bn : Int)] 0)) := hR1.out.trans (if_neg h4)
          obtain ⟨full, hful⟩ : ∃ f, culI P ans (timesOf times).toNat (cand.length + 1) cand [(bn : Int)] 0 = f := ⟨_, rfl⟩
          have HFUL := Lib.hid hful
          have hsp : ((w7.drewN n8).heap.size) = w7.heap.size := rfl
          rw [hsp] at hp9 ⊢
          clear hsp
          have hbpl := hp9.lt
          have hI : RCulInv w P (.slice A P.length c) (timesOf times).toNat ans full w7.heap.size (cand.length + 1) (.slice A7 cand.length c7) (.slice (some ⟨w9.heap.size, 0, none⟩) 1 1) (w9.alloc (.cells #[.int .i64 bn] 3)) := by
            refine ⟨cand, [(bn : Int)], [(bn : Int)], 0, ⟨A7, c7, rfl, r9.alloc _, fun h0 a ha => ?_⟩, ⟨_, 1, rfl, Rd.one _ _ _ _, fun _ a ha => ?_⟩, by omega, ?_, fun x => Iff.rfl, hcs, ?_, hful.symm, hp9.fr (by repeat (first | exact Fr.refl _ _ | assumption | apply Fr.drewN | apply Fr.drew | apply Fr.alloc | refine Fr.setCell ?_ (by simp) _)), hH9.alloc _, hB9.alloc _, hF9.alloc _⟩
            · have := hbp a ha h0; omega
            · injection ha with ha; subst ha; show w9.heap.size ≠ w7.heap.size; omega
            · have := minus_le cand [(bn : Int)]; omega
            · rw [isSet_iff]; exact ⟨fun x hx => by simp at hx; omega, by simp⟩
          rw [hful] at hR
          have hal4 : ans.length ≤ 4096 := by omega
          clear hful hR1 h4 hp9 hH9 hB9 r9 hH7 hB7 r7 hf79 hbp hd7 hf9
          have hT := timesOf_le times
          go_wp2_with fail
          go_loopg [13, 16] (cand.length + 1) (RCulInv w P (.slice A P.length c) (timesOf times).toNat ans full w7.heap.size)
          case atStart => exact hI
          case round =>
            clear hI
            obtain ⟨cd, skip, sk, u, ⟨A1, c1, rfl, hr1, hn1⟩, ⟨A2, c2, rfl, hr2, hn2⟩, hu, hlt, hsk, hcds, hsks, hfu, hpl, hH, hB, hf⟩ := hrel
            obtain ⟨t, rfl⟩ : ∃ t, gk = t + 1 := ⟨gk - 1, by omega⟩
            obtain ⟨hcr, hcl2⟩ := set_inR hcds
            have HCR := Lib.hid hcr
            have hskl := (set_inR hsks).2
            have hcg : Hid (chooseOf P cd (bothL skip cd) = chooseOf P cd sk) := choose_congr fun x hx => by
              rw [mem_both, ← hsk.out x]; simp [hx]
            have hmc : Hid (minus cd skip = minus cd sk) := minus_congr fun x hx => (hsk.out x).symm
            have HOK : Hid (CulOk P cd sk (fun _ => false)) := ⟨hcds, by simp⟩
            have HCS := Lib.hid hcds
            have HSS := Lib.hid hsks
            have q0 := hH.cell 0 rfl
            clear hcr hcds hsks
            go_wp2_with fail
            refine (MinusR_any A1 A2 c1 c2 cd skip _ hr1 hr2 (by omega)).mono ?_
            rw [hmc.out]
            rintro e w10 ⟨A10, c10, rfl, hf10, ho10⟩
            have hpl10 := hpl.fr hf10
            have hH10 := hH.fr hf10 (by simp)
            have hB10 := hB.fr hf10 (by simp)
            have hF10 := hf.trans hf10
            have hr1' := hr1.fr0 hf10
            have hr2' := hr2.fr0 hf10
            have hml := minus_le cd sk
            clear hf10 ho10 q0 hpl hH hB hr1 hr2 hmc
            by_cases hz : (minus cd sk).length = 0
            · have hd3 : decide (0 < (minus cd sk).length) = false := by simp [hz]
              have hfin : full = some (.inr (cd, u)) := by
                rw [hfu.out, culI, if_pos ((choose_neg HCR.out).2 (List.eq_nil_of_length_eq_zero hz))]
              have HR2 : Hid (culprits P good bn times ans = endOf false [] 0 (decide (u < ans.length)) cd []) := by
                show _ = _
                rw [hR.out, hfin]; rfl
              clear hz hfin hfu
              go_wp2_with fail
              refine (end_any _ ans u _ _ false [] 0 A1 none c1 0 cd [] _ hpl10 hr1' (hn _)).mono ?_
              rintro e w11 ⟨v, rfl, hf11, A4, a4, B4, b4, C4, c4, rfl, hq1, hq2, hq3⟩
              have hB11 := hB10.fr hf11 (by simp)
              have qc0 := hB11.cell 0 rfl
              have qc1 := hB11.cell 1 rfl
              have qc2 := hB11.cell 2 rfl
              have qc3 := hB11.cell 3 rfl
              have qd0 := hB11.frozen 0
              have qd1 := hB11.frozen 1
              have qd2 := hB11.frozen 2
              have qd3 := hB11.frozen 3
              go_wp2
              refine bodyPost_ret (results_qst rfl _ _ (w.heap.size + 1) rfl (hB11.four _ _ _ _)) rfl ?_
              rw [HR2.out]
              exact qst_ret (by omega) (hF10.trans hf11) hB11 hq1 hq2 hq3
            · have hd3 : decide (0 < (minus cd sk).length) = true := by rw [decide_eq_true_eq]; omega
              have hne : minus cd sk ≠ [] := fun h => hz (by rw [h]; rfl)
              have hcm := choose_mem hne HCR.out
              have hcnn : ¬ chooseOf P cd sk < 0 := fun h => hne ((choose_neg HCR.out).1 h)
              have hch : Hid (chooseR P cd (bothL skip cd) = (chooseOf P cd sk, 0)) := by
                show _ = _
                unfold chooseR
                rw [if_neg (by simp [H1.out]), if_neg (by simp [HCS.out, both_set HSS.out]), hcg.out, if_neg hcnn]
              obtain ⟨at_, hat⟩ : ∃ a, chooseOf P cd sk = a := ⟨_, rfl⟩
              rw [hat] at hcm hcnn hch
              have HAT := Lib.hid hat
              have HM := Lib.hid hcm
              have HNN := Lib.hid hcnn
              have har := HCR.out at_ (mem_minus.1 hcm).1
              obtain ⟨an, rfl⟩ : ∃ an : Nat, at_ = an := ⟨at_.toNat, by omega⟩
              have q1 := hH10.cell 0 rfl
              clear hz hne hcm hcnn hat hcg
              go_wp2_with fail
              go_region_held3 (fun w' => w'.cell? ⟨w.heap.size, 0, none⟩ = some (.slice A P.length c))
                (first
                  | go_keep
                  | exact hfa.cell (by assumption) (by simp)
                  | exact hfb.cell (by assumption) (by simp))
                (first
                  | (go_at_call 64; refine (Both_any A2 A1 c2 c1 skip cd _ (hr2'.fr0 (by repeat (first | exact Fr.refl _ _ | assumption | apply Fr.drewN | apply Fr.drew | apply Fr.alloc | refine Fr.setCell ?_ (by simp) _))) (hr1'.fr0 (by repeat (first | exact Fr.refl _ _ | assumption | apply Fr.drewN | apply Fr.drew | apply Fr.alloc | refine Fr.setCell ?_ (by simp) _))) (by omega)).mono ?_; rintro e w12 ⟨A12, c12, rfl, hfa, ho12⟩; have hFa : Fr [] w10 w12 := (Fr.trans (by repeat (first | exact Fr.refl _ _ | assumption | apply Fr.drewN | apply Fr.drew | apply Fr.alloc | refine Fr.setCell ?_ (by simp) _)) hfa))
                  | (go_at_call 36; refine (refChoose_any A A1 A12 c c1 c12 P cd (bothL skip cd) _ (ha.fr0 (Fr.trans hF10 (by repeat (first | exact Fr.refl _ _ | assumption | apply Fr.drewN | apply Fr.drew | apply Fr.alloc | refine Fr.setCell ?_ (by simp) _)))) (hr1'.fr0 (by repeat (first | exact Fr.refl _ _ | assumption | apply Fr.drewN | apply Fr.drew | apply Fr.alloc | refine Fr.setCell ?_ (by simp) _))) ((Rd.of_own ho12).2.fr0 (by repeat (first | exact Fr.refl _ _ | assumption | apply Fr.drewN | apply Fr.drew | apply Fr.alloc | refine Fr.setCell ?_ (by simp) _)))).mono ?_; rw [hch.out]; rintro e w13 ⟨rfl, hfb⟩; have hFb : Fr [] w10 w13 := (Fr.trans (by repeat (first | exact Fr.refl _ _ | assumption | apply Fr.drewN | apply Fr.drew | apply Fr.alloc | refine Fr.setCell ?_ (by simp) _)) hfb)))
              have hpl13 := hpl10.fr hFb
              have hH13 := hH10.fr hFb (by simp)
              have hB13 := hB10.fr hFb (by simp)
              have hF13 := hF10.trans hFb
              have hc13 : RdOff w13 w7.heap.size (.slice A1 cd.length c1) cd := ⟨A1, c1, rfl, hr1'.fr0 hFb, hn1⟩
              have hs13 : RdOff w13 w7.heap.size (.slice A2 skip.length c2) skip := ⟨A2, c2, rfl, hr2'.fr0 hFb, hn2⟩
              clear hpl10 hH10 hB10 hF10 hr1' hr2' hFa hFb hfa hfb ho12 q1 hch
              rcases hver : ver ans (timesOf times).toNat u 3 with _ | ⟨x, u2⟩
              · have HVE := Lib.hid hver
                clear hver
                have HR2 : Hid (culprits P good bn times ans = (⟨false, [(an : Int)], [], []⟩, 0)) := by
                  show _ = _
                  rw [hR.out, hfu.out, culI]
                  simp only [HAT.out, if_neg (show ¬ (an : Int) < 0 by omega), HVE.out]
                  rfl
                go_wp2_with fail
                refine (version_none _ ans u _ _ an times _ hpl13 (by omega) hu HVE.out).mono ?_
                rintro e w14 ⟨u3, rfl, hf14, hp14⟩
                obtain ⟨_, _, _, _, hpb, _⟩ := hp14.ex
                have c4 := hpb.cell 4 rfl
                clear hpb
                go_wp2_with fail
                refine (end_any _ ans u3 _ _ true [(an : Int)] 0 none none 0 0 [] [] _ hp14 (hn _) (hn _)).mono ?_
                rintro e w15 ⟨v, rfl, hf15, A4, a4, B4, b4, C4, c4', rfl, hq1, hq2, hq3⟩
                have hB15 := (hB13.fr hf14 (by simp; omega)).fr hf15 (by simp)
                have qc0 := hB15.cell 0 rfl
                have qc1 := hB15.cell 1 rfl
                have qc2 := hB15.cell 2 rfl
                have qc3 := hB15.cell 3 rfl
                have qd0 := hB15.frozen 0
                have qd1 := hB15.frozen 1
                have qd2 := hB15.frozen 2
                have qd3 := hB15.frozen 3
                go_wp2
                refine bodyPost_ret (results_qst rfl _ _ (w.heap.size + 1) rfl (hB15.four _ _ _ _)) rfl ?_
                rw [HR2.out, show ((⟨false, [(an : Int)], [], []⟩, 0) : Qst × Int) = endOf true [(an : Int)] 0 (decide (u3 < ans.length)) [] [] by simp [endOf]]
                exact qst_ret (by omega) ((hF13.trans2 hf14 (by simp; omega)).trans0 hf15) hB15 hq1 hq2 hq3
              · have HVE := Lib.hid hver
                have hu2 := ver_used hver hu
                clear hver
                have hstep : Hid (full = if x = 2 then culI P ans (timesOf times).toNat t (bothL cd (ancOf P [(an : Int)])) (sk ++ [(an : Int)]) u2 else if x = 1 then culI P ans (timesOf times).toNat t (minus cd (ancOf P [(an : Int)])) sk u2 else culI P ans (timesOf times).toNat t cd (sk ++ [(an : Int)]) u2) := by
                  show _ = _
                  rw [hfu.out, culI]
                  simp only [HAT.out, if_neg (show ¬ (an : Int) < 0 by omega), HVE.out]
                go_wp2_with fail
                refine (version_got _ ans u _ _ an times _ hpl13 (by omega) hu HVE.out).mono ?_
                rintro e w14 ⟨rfl, hf14, hp14⟩
                obtain ⟨_, _, _, _, hpb, _⟩ := hp14.ex
                have c4 := hpb.cell 4 rfl
                have hH14 := hH13.fr hf14 (by simp; omega)
                have hB14 := hB13.fr hf14 (by simp; omega)
                have hF14 : Fr [] w w14 := hF13.trans2 hf14 (by simp; omega)
                have hc14 := hc13.fr hf14
                have hs14 := hs13.fr hf14
                have q2 := hH14.cell 0 rfl
                clear hpb hpl13 hH13 hB13 hF13 hc13 hs13 hf14 hfu
                have hsk1 : Hid (∀ y, y ∈ sk ++ [(an : Int)] ↔ y ∈ plus skip [(an : Int)]) := fun y => by
                  rw [mem_plus, List.mem_append, hsk.out y]
                have hanset : isSet P.length [(an : Int)] = true := by rw [isSet_iff]; exact ⟨fun y hy => by simp at hy; omega, by simp⟩
                have HPS := Lib.hid (plus_set HSS.out hanset)
                clear hanset
                obtain ⟨A1', c1', e1, hr14, hn14⟩ := hc14
                injection e1 with e1 _ e2
                subst e1 e2
                obtain ⟨A2', c2', e3, hs14r, hsn14⟩ := hs14
                injection e3 with e3 _ e4
                subst e3 e4
                have hbl14 := hp14.lt
                by_cases hx2 : x = 2
                · have b2 : (x == 2) = true := by simpa using hx2
                  rw [if_pos hx2] at hstep
                  obtain ⟨hok', hlt'⟩ := cul_fail (v := (an : Int)) HOK.out HM.out (m' := fun _ => false) (by simp)
                  have HLT := Lib.hid hlt'
                  have HST := Lib.hid hok'.set
                  clear hx2 hok' hlt'
                  go_wp2_with fail
                  refine (refancestors_any A _ c 1 P [(an : Int)] _ (ha.fr0 (by repeat (first | exact Fr.refl _ _ | assumption | apply Fr.drewN | apply Fr.drew | apply Fr.alloc | refine Fr.setCell ?_ (by simp) _))) (Rd.one_cell (by simp)) HV.out (fun y hy => by simp at hy; omega) (by omega)).mono ?_
                  rintro e w15 ⟨A15, c15, rfl, hf15, ho15⟩
                  have hG15 : Fr [] w14 w15 := Fr.trans (by repeat (first | exact Fr.refl _ _ | assumption | apply Fr.drewN | apply Fr.drew | apply Fr.alloc | refine Fr.setCell ?_ (by simp) _)) hf15
                  go_wp2_with fail
                  refine (Both_any A1 A15 c1 c15 cd (ancOf P [(an : Int)]) _ (hr14.fr0 hG15) (Rd.of_own ho15).2 (by omega)).mono ?_
                  rintro e w16 ⟨A16, c16, rfl, hf16, ho16⟩
                  have hG16 := hG15.trans hf16
                  go_wp2_with fail
                  refine (Plus_any A2 _ c2 1 skip [(an : Int)] _ (hs14r.fr0 (hG16.alloc _)) (Rd.one_cell (by simp)) (by omega) (by simp)).mono ?_
                  rintro e w17 ⟨A17, c17, rfl, hf17, ho17⟩
                  have hG17 : Fr [] w14 w17 := (hG16.alloc _).trans hf17
                  have hG67 : Fr [] w16 w17 := Fr.trans (by repeat (first | exact Fr.refl _ _ | assumption | apply Fr.drewN | apply Fr.drew | apply Fr.alloc | refine Fr.setCell ?_ (by simp) _)) hf17
                  go_wp2_with fail
                  go_roundg t
                  case measure => omega
                  case rel =>
                    have e1 := hG15.size
                    have e2 := hG16.size
                    exact ⟨bothL cd (ancOf P [(an : Int)]), plus skip [(an : Int)], sk ++ [(an : Int)], u2, rdOff_new (own_fr ho16 hG67 (by simp)) (by omega), rdOff_new ho17 (by simp; omega), hu2.2, by have := HLT.out; omega, hsk1, HST.out, HPS.out, hstep, hp14.fr hG17, hH14.fr hG17 (by simp), hB14.fr hG17 (by simp), hF14.trans hG17⟩
                · have b2 : (x == 2) = false := by simpa using hx2
                  rw [if_neg hx2] at hstep
                  clear hx2
                  by_cases hx1 : x = 1
                  · have b1 : (x == 1) = true := by simpa using hx1
                    rw [if_pos hx1] at hstep
                    obtain ⟨hok', hlt'⟩ := cul_pass (v := (an : Int)) HV.out HOK.out HM.out (m' := fun _ => false) (by simp)
                    have HLT := Lib.hid hlt'
                    have HST := Lib.hid hok'.set
                    clear hx1 hok' hlt' hsk1 HPS
                    go_wp2_with fail
                    refine (refancestors_any A _ c 1 P [(an : Int)] _ (ha.fr0 (by repeat (first | exact Fr.refl _ _ | assumption | apply Fr.drewN | apply Fr.drew | apply Fr.alloc | refine Fr.setCell ?_ (by simp) _))) (Rd.one_cell (by simp)) HV.out (fun y hy => by simp at hy; omega) (by omega)).mono ?_
                    rintro e w15 ⟨A15, c15, rfl, hf15, ho15⟩
                    have hG15 : Fr [] w14 w15 := Fr.trans (by repeat (first | exact Fr.refl _ _ | assumption | apply Fr.drewN | apply Fr.drew | apply Fr.alloc | refine Fr.setCell ?_ (by simp) _)) hf15
                    go_wp2_with fail
                    refine (MinusR_any A1 A15 c1 c15 cd (ancOf P [(an : Int)]) _ (hr14.fr0 hG15) (Rd.of_own ho15).2 (by omega)).mono ?_
                    rintro e w16 ⟨A16, c16, rfl, hf16, ho16⟩
                    have hG16 := hG15.trans hf16
                    go_wp2_with fail
                    go_roundg t
                    case measure => omega
                    case rel =>
                      have e1 := hG15.size
                      exact ⟨minus cd (ancOf P [(an : Int)]), skip, sk, u2, rdOff_new ho16 (by omega), ⟨A2, c2, rfl, hs14r.fr0 hG16, hsn14⟩, hu2.2, by have := HLT.out; omega, hsk, HST.out, HSS.out, hstep, hp14.fr hG16, hH14.fr hG16 (by simp), hB14.fr hG16 (by simp), hF14.trans hG16⟩
                  · have b1 : (x == 1) = false := by simpa using hx1
                    rw [if_neg hx1] at hstep
                    obtain ⟨hok', hlt'⟩ := cul_skip (v := (an : Int)) HOK.out HM.out (m' := fun _ => false) (by simp)
                    have HLT := Lib.hid hlt'
                    clear hx1 hok' hlt'
                    go_wp2_with fail
                    refine (Plus_any A2 _ c2 1 skip [(an : Int)] _ (hs14r.fr0 (by repeat (first | exact Fr.refl _ _ | assumption | apply Fr.drewN | apply Fr.drew | apply Fr.alloc | refine Fr.setCell ?_ (by simp) _))) (Rd.one_cell (by simp)) (by omega) (by simp)).mono ?_
                    rintro e w17 ⟨A17, c17, rfl, hf17, ho17⟩
                    have hG17 : Fr [] w14 w17 := Fr.trans (by repeat (first | exact Fr.refl _ _ | assumption | apply Fr.drewN | apply Fr.drew | apply Fr.alloc | refine Fr.setCell ?_ (by simp) _)) hf17
                    go_wp2_with fail
                    go_roundg t
                    case measure => omega
                    case rel => exact ⟨cd, plus skip [(an : Int)], sk ++ [(an : Int)], u2, ⟨A1, c1, rfl, hr14.fr0 hG17, hn14⟩, rdOff_new ho17 (by simp; omega), hu2.2, by have := HLT.out; omega, hsk1, HCS.out, HPS.out, hstep, hp14.fr hG17, hH14.fr hG17 (by simp), hB14.fr hG17 (by simp), hF14.trans hG17⟩
      · have hd1 : decide ((bn : Int) ∈ cand) = false := by simpa using hbc
        have hR : Hid (culprits P good bn times ans = (qNone, 12)) := hR0.out.trans (if_pos hbc)
        clear hR0 hbc
        go_wp2_with fail
        refine (Has_any A7 c7 cand bn _ r7).mono ?_
        rw [hd1]
        rintro e w8 ⟨rfl, n8, rfl⟩
        have qc0 := hB7.cell 0 rfl
        have qc1 := hB7.cell 1 rfl
        have qc2 := hB7.cell 2 rfl
        have qc3 := hB7.cell 3 rfl
        have qd0 := hB7.frozen 0
        have qd1 := hB7.frozen 1
        have qd2 := hB7.frozen 2
        have qd3 := hB7.frozen 3
        go_wp2
        refine bodyPost_ret (results_qst rfl _ _ (w.heap.size + 1) rfl ((hB7.four _ _ _ _).drewN _)) rfl ?_
        rw [hR.out]
        exact (qst_ret (r := (qNone, 12)) (by omega) (by repeat (first | exact Fr.refl _ _ | assumption | apply Fr.drewN | apply Fr.drew | apply Fr.alloc | refine Fr.setCell ?_ (by simp) _)) hB7 (hn _) (hn _) (hn _)).drewN _
  · have hb1 : (checkHist P != 0) = true := by simpa using h1
    have hR : Hid (culprits P good bad times ans = (qNone, checkHist P)) := by
      show _ = _
      unfold culprits
      rw [if_pos h1]
    clear h1
    go_enter Try.func37, Try.ntmps37
    go_wp2_with fail
    rw [HW.out]
    refine hck.mono ?_
    rintro e w1 ⟨rfl, hf1⟩
    have hB1 := hbQ.fr hf1 (by simp)
    have qc0 := hB1.cell 0 rfl
    have qc1 := hB1.cell 1 rfl
    have qc2 := hB1.cell 2 rfl
    have qc3 := hB1.cell 3 rfl
    have qd0 := hB1.frozen 0
    have qd1 := hB1.frozen 1
    have qd2 := hB1.frozen 2
    have qd3 := hB1.frozen 3
    go_wp2
    refine bodyPost_ret (results_qst rfl _ _ (w.heap.size + 1) rfl (hB1.four _ _ _ _)) rfl ?_
    rw [hR.out]
    exact qst_ret (r := (qNone, checkHist P)) (by omega) (hfW.trans hf1) hB1 (hn _) (hn _) (hn _)
end Go.Proofs.Ytjpbmbonccenfaa
