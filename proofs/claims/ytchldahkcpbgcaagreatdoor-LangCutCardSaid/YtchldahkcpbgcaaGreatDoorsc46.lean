/- Texts of this seat, one behind the other: LCut. -/
import Derived.Test.YtchldahkcpbgcaaGreatDoorsc35
import Derived.Test.YtchldahkcpbgcaaGreatDoorsc45
import Derived.Test.YtchldahkcpbgcaaGreatDoorsc30
namespace Go.Proofs.YtchldahkcpbgcaaGreatDoor
set_option linter.unusedVariables false

/- LangCut: the walk. -/
section
open Go.RowKit Go.Sort
set_option linter.unusedSimpArgs false
theorem cut_cases (fs : List Fu) (n : Int) : (∃ e, e ≠ 0 ∧ whereO fs n = (zeroSp, e) ∧ replaceO fs n [] = ([], e)) ∨ (∃ (sp : Spt) (q : List Fu), whereO fs n = (sp, 0) ∧ replaceO fs n [] = (q, 0) ∧ 1 ≤ sp.size ∧ shapeP q = 0 ∧ shapeP fs = 0 ∧ ∃ N T : Nat, countP q = N ∧ countP fs = T ∧ T = N + sp.size ∧ T ≤ 1024 ∧
    ∀ i : Nat, i < N → ∃ a b, findP q i = some a ∧ findP fs (if n ≤ (i : Int) then (i : Int) + sp.size else i) = some b ∧ a.1.kind = b.1.kind ∧ a.1.text = b.1.text) := by
  by_cases hs : shapeP fs = 0
  · cases hp : findP fs n with
    | none => exact .inl ⟨7, by decide, by unfold whereO; rw [if_neg (by simp [hs]), hp], rep_none hs hp⟩
    | some p =>
      obtain ⟨h1, h2, h3, h4⟩ := cut_law hs hp
      refine .inr ⟨p.2, _, by unfold whereO; rw [if_neg (by simp [hs]), hp], rep_ok hs hp h1, h2, h1, hs, _, _, by unfold countP; rw [if_pos h1], by unfold countP; rw [if_pos hs], h3.symm, ?_, fun i hi => ?_⟩
      · have := (plF_kt fs 0 0).2
        have h5 := nuF_le fs
        have h6 := (shape_small hs).1
        show (plF 0 0 fs).length ≤ 1024
        omega
      obtain ⟨a, b, ha, hb, hk, ht⟩ := h4 i hi
      refine ⟨a, b, by unfold findP; rw [if_pos (by omega)]; exact ha, ?_, hk, ht⟩
      unfold findP
      by_cases hc : n ≤ (i : Int)
      · rw [if_pos hc] at hb ⊢
        rw [if_pos (by omega)]
        exact hb
      · rw [if_neg hc] at hb ⊢
        rw [if_pos (by omega)]
        exact hb
  · exact .inl ⟨shapeP fs, hs, by unfold whereO; rw [if_pos hs], rep_bad hs⟩
set_option maxRecDepth 20000 in
set_option maxHeartbeats 6400000 in
theorem LCut_any {S : Nat → Prop} {m : Nat} {A : Option Addr} {c : Nat} {l : List Fu} {w : World} (n : Int) (hl : RF S m w A c l) (ht : tmF l) (hfl : l.length ≤ 140737488351232) (hT : Tabs w) :
  Calls Tryz.prog 7 #[.agg #[.slice A l.length c], .int .i64 n] w (RetV w (.bool true)) := by
 obtain ⟨W, hW⟩ : ∃ W, W = w.alloc (.cells #[.slice A l.length c] 25) := ⟨_, rfl⟩
 have hfW : Fr [] w W := by rw [hW]; exact ((Fr.refl _ _).alloc _)
 have hB1 : Blk W w.heap.size 25 #[.slice A l.length c] := by rw [hW]; exact (Blk.new _ _ _ _ rfl)
 have q0 : W.cell? ⟨w.heap.size, 0, none⟩ = some (.slice A l.length c) := hB1.cell 0 rfl
 have HW := Lib.hid hW.symm
 have HLV : Hid (∀ V, Fr [] W V → Calls Tryz.prog 16 #[] V (RetV V (.bool true))) := Lib.hid fun V h => lives_t (hT.fr (hfW.trans h))
 have HG1 : Hid (∀ V, Fr [] W V → Calls Tryz.prog 24 #[.agg #[.slice A l.length c]] V (RetV V (.bool (greatP l)))) := Lib.hid fun V h => Great_any (hl.fr0 (hfW.trans h)) ht hfl
 obtain ⟨g1, hg1⟩ : ∃ g, greatP l = g := ⟨_, rfl⟩
 rw [hg1] at HG1
 have HGP := Lib.hid hg1
 have HTM := Lib.hid ht
 clear hW hg1 ht hT hfl
 go_enter Tryz.func7, Tryz.ntmps7
 go_upto_region 1 with fail
 rw [HW.out]
 go_wp2_with fail
 refine (HG1.out _ (Fr.refl _ _)).mono ?_
 rintro e w1 ⟨rfl, hf1⟩
 cases g1
 rotate_left 1
 ·go_wp2_with fail
  refine (HLV.out _ hf1).mono ?_
  rintro e w2 ⟨rfl, hf2⟩
  go_wp2
  go_ret
  exact ⟨rfl, (hfW.trans hf1).trans hf2⟩
 have hsm := small_of HGP.out
 have hcn : cntF l ≤ 1000000000 := by omega
 have htx := tmF_tx HTM.out
 have HWH : Hid (∀ V A c m S, RF S m V A c l → Calls Tryz.prog 27 #[.agg #[.slice A l.length c], .int .i64 n] V (RetV V (.tuple #[.agg (spotC (whereO l n).1), .int .i64 (whereO l n).2]))) := Lib.hid fun V A c m S hR => Where_any n A c l S m V hR hcn htx
 have HRP : Hid (∀ V A c m S, RF S m V A c l → Calls Tryz.prog 28 #[.agg #[.slice A l.length c], .int .i64 n, .slice none 0 0] V (RetPE V (replaceO l n []))) := Lib.hid fun V A c m S hR => by
  have := Replace_any (wt := []) (Aw := none) (cw := 0) (S' := fun _ => False) (nw := 1) n hR (LN.nil0 _ _ _ _) hcn htx (Nat.zero_le _) (by rw [cntL]; omega) (by rw [ppL]; trivial) (fun y hy => by cases hy)
  exact this
 have HCT : Hid (∀ V A c m S, RF S m V A c l → Calls Tryz.prog 29 #[.agg #[.slice A l.length c]] V (RetV V (.int .i64 (countP l)))) := Lib.hid fun V A c m S hR => Count_any A c l S m V hR hcn htx
 have HAP : Hid (∀ V A c m S k, RF S m V A c l → Calls Tryz.prog 30 #[.agg #[.slice A l.length c], .int .i64 k] V (RetAt V l k)) := Lib.hid fun V A c m S k hR => At_any k hR hcn htx
 have hR1 := hl.fr0 (hfW.trans hf1)
 have q1 := hf1.cell q0 (by simp)
 clear hsm hcn htx HTM HGP HG1 hl q0
 rcases cut_cases l n with ⟨e, he, hwh, hrp⟩ | ⟨sp, q, hwh, hrp, hsp, hsq, hsl, N, T, hN, hN2, hNT, hT2, hat⟩
 ·rw [hwh] at HWH
  rw [hrp] at HRP
  have ez : (e != 0) = true := by simpa using he
  clear hwh hrp he
  go_wp2_with fail
  refine (HWH.out _ _ _ _ _ hR1).mono ?_
  rintro en w2 ⟨rfl, hf2⟩
  obtain ⟨gs, hgs⟩ : ∃ g, g = w2.heap.size := ⟨_, rfl⟩
  go_upto_region 4 with fail
  rw [← hgs]
  refine wp_hide (fun M hM => ?_)
  have hfM : Fr [] w2 M := by rw [hM]; exact (Fr.refl _ _).alloc _
  have hBs : Blk M gs 36 (spotC zeroSp) := by rw [hM]; exact Blk.new _ _ _ _ hgs
  have hfM := hf2.trans hfM
  have hRM := hR1.fr0 hfM
  have qM := hfM.cell q1 (by simp)
  have hwM := hf1.trans hfM
  clear hM hgs hR1 q1 hf2
  go_wp2_with fail
  refine (HRP.out _ _ _ _ _ hRM).mono ?_
  rintro en w3 ⟨A3, c3, m3, rfl, hR3, hf3⟩
  obtain ⟨gq, hgq⟩ : ∃ g, g = w3.heap.size := ⟨_, rfl⟩
  go_upto_region 5 with fail
  rw [← hgq]
  refine wp_hide (fun M5 hM5 => ?_)
  have hf5 : Fr [] w3 M5 := by rw [hM5]; exact (Fr.refl _ _).alloc _
  have hBq : Blk M5 gq 25 #[.slice A3 ([] : List Fu).length c3] := by rw [hM5]; exact Blk.new _ _ _ _ hgq
  have hR5 := hR3.fr0 hf5
  have hf5 := hf3.trans hf5
  have hRM5 := hRM.fr0 hf5
  have qM5 := hf5.cell qM (by simp)
  have hwM5 := hwM.trans hf5
  have hB5 := hBs.fr hf5 (by simp)
  have g0 : M5.cell? ⟨gq, 0, none⟩ = some (.slice A3 ([] : List Fu).length c3) := hBq.cell 0 rfl
  have s0 : M5.cell? ⟨gs, 0, none⟩ = _ := hB5.cell 0 rfl
  have s1 : M5.cell? ⟨gs, 1, none⟩ = _ := hB5.cell 1 rfl
  have s2 : M5.cell? ⟨gs, 2, none⟩ = _ := hB5.cell 2 rfl
  have s3 : M5.cell? ⟨gs, 3, none⟩ = _ := hB5.cell 3 rfl
  have s4 : M5.cell? ⟨gs, 4, none⟩ = _ := hB5.cell 4 rfl
  have s5 : M5.cell? ⟨gs, 5, none⟩ = _ := hB5.cell 5 rfl
  clear hM5 hgq hBs hf3 hf5 hRM qM hwM hBq hB5 hfM
  have ee : (e != e) = false := by simp
  go_wp2_with fail
  refine (HLV.out _ hwM5).mono ?_
  rintro en w6 ⟨rfl, hf6⟩
  go_wp2
  go_ret
  exact ⟨rfl, (hfW.trans hwM5).trans hf6⟩
 ·rw [hwh] at HWH
  rw [hrp] at HRP
  clear hwh hrp
  go_wp2_with fail
  refine (HWH.out _ _ _ _ _ hR1).mono ?_
  rintro en w2 ⟨rfl, hf2⟩
  obtain ⟨gs, hgs⟩ : ∃ g, g = w2.heap.size := ⟨_, rfl⟩
  go_upto_region 4 with fail
  rw [← hgs]
  refine wp_hide (fun M hM => ?_)
  have hfM : Fr [] w2 M := by rw [hM]; exact (Fr.refl _ _).alloc _
  have hBs : Blk M gs 36 (spotC sp) := by rw [hM]; exact Blk.new _ _ _ _ hgs
  have hfM := hf2.trans hfM
  have hRM := hR1.fr0 hfM
  have qM := hfM.cell q1 (by simp)
  have hwM := hf1.trans hfM
  clear hM hgs hR1 q1 hf2
  go_wp2_with fail
  refine (HRP.out _ _ _ _ _ hRM).mono ?_
  rintro en w3 ⟨A3, c3, m3, rfl, hR3, hf3⟩
  obtain ⟨gq, hgq⟩ : ∃ g, g = w3.heap.size := ⟨_, rfl⟩
  go_upto_region 5 with fail
  rw [← hgq]
  refine wp_hide (fun M5 hM5 => ?_)
  have hf5 : Fr [] w3 M5 := by rw [hM5]; exact (Fr.refl _ _).alloc _
  have hBq : Blk M5 gq 25 #[.slice A3 q.length c3] := by rw [hM5]; exact Blk.new _ _ _ _ hgq
  have hR5 := hR3.fr0 hf5
  have hf5 := hf3.trans hf5
  have hRM5 := hRM.fr0 hf5
  have qM5 := hf5.cell qM (by simp)
  have hwM5 := hwM.trans hf5
  have hB5 := hBs.fr hf5 (by simp)
  have g0 : M5.cell? ⟨gq, 0, none⟩ = some (.slice A3 q.length c3) := hBq.cell 0 rfl
  have s0 : M5.cell? ⟨gs, 0, none⟩ = _ := hB5.cell 0 rfl
  have s1 : M5.cell? ⟨gs, 1, none⟩ = _ := hB5.cell 1 rfl
  have s2 : M5.cell? ⟨gs, 2, none⟩ = _ := hB5.cell 2 rfl
  have s3 : M5.cell? ⟨gs, 3, none⟩ = _ := hB5.cell 3 rfl
  have s4 : M5.cell? ⟨gs, 4, none⟩ = _ := hB5.cell 4 rfl
  have s5 : M5.cell? ⟨gs, 5, none⟩ = _ := hB5.cell 5 rfl
  clear hM5 hgq hBs hf3 hf5 hRM qM hwM hBq hB5 hfM
  have hqc := (shape_small hsq).1
  have hqt := txF_of_shape hsq
  have HCQ : Hid (∀ V A c m S, RF S m V A c q → Calls Tryz.prog 29 #[.agg #[.slice A q.length c]] V (RetV V (.int .i64 N))) := Lib.hid fun V A c m S hR => by
   have := Count_any A c q S m V hR (by omega) hqt
   rw [hN] at this
   exact this
  have HAQ : Hid (∀ V A c m S (i : Nat) a, findP q i = some a → RF S m V A c q → Calls Tryz.prog 30 #[.agg #[.slice A q.length c], .int .i64 i] V (fun en w' => ∃ h, en = .returned (.tuple #[.agg (ndCells a.1 h), .int .i64 0]) ∧ Fr [] V w')) := Lib.hid fun V A c m S i a ha hR =>
   (At_any i hR (by omega) hqt).mono fun en w' hr => by
    obtain ⟨hf, hr⟩ := hr
    rw [if_neg (by simp [hsq]), ha] at hr
    obtain ⟨h, _, he, _⟩ := hr
    exact ⟨h, he, hf⟩
  have HAL : Hid (∀ V A c m S (k : Int) a, findP l k = some a → RF S m V A c l → Calls Tryz.prog 30 #[.agg #[.slice A l.length c], .int .i64 k] V (fun en w' => ∃ h, en = .returned (.tuple #[.agg (ndCells a.1 h), .int .i64 0]) ∧ Fr [] V w')) := Lib.hid fun V A c m S k a ha hR =>
   (HAP.out V A c m S k hR).mono fun en w' hr => by
    obtain ⟨hf, hr⟩ := hr
    rw [if_neg (by simp [hsl]), ha] at hr
    obtain ⟨h, _, he, _⟩ := hr
    exact ⟨h, he, hf⟩
  rw [hN2] at HCT
  have HAT := Lib.hid hat
  have hs1 : ¬ (sp.size : Int) < 1 := by omega
  have e1 : ((T : Int) - (sp.size : Int)) = N := by omega
  have HNT := Lib.hid hNT
  clear hN hN2 hat hqc hqt hsq hsl HAP hNT hsp
  have c0 := fun d os => cell_regrown qM5 d os
  have c1 := fun d os => cell_regrown g0 d os
  have c5 := fun d os => cell_regrown s5 d os
  have k1 := fun d os => Calls.regrown_of ((HCQ.out _ _ _ _ _ (hR5.fr0 (Fr.of_below (below_regrown M5 d os)))).mono fun e w' h => ⟨h.1, h.2.below⟩)
  have k2 := fun d os => Calls.regrown_of ((HCT.out _ _ _ _ _ (hRM5.fr0 (Fr.of_below (below_regrown M5 d os)))).mono fun e w' h => ⟨h.1, h.2.below⟩)
  go_upto_region 9 with fail
  refine wp_region_quiet_below (by kernel_rfl) (by kernel_rfl) ?_
  repeat (go_big_quiet_step (first | with_reducible exact k1 _ _ | with_reducible exact k2 _ _))
  refine wpQuiet_nil ?_
  intro _ hw
  obtain ⟨⟨dq, osq⟩, hw2⟩ := hw
  subst hw2
  have hQ : Fr [] M5 (grow (redrawn M5 dq) osq) := Fr.of_below (below_regrown M5 dq osq)
  obtain ⟨VQ, hVQ⟩ : ∃ X, X = grow (redrawn M5 dq) osq := ⟨_, rfl⟩
  rw [← hVQ] at hQ ⊢
  clear hVQ dq osq
  clear c0 c1 c5 k1 k2 HCT HWH HRP s0 s1 s2 s3 s4 hs1 e1
  have HRQ : Hid (∀ V, Fr [] M5 V → RF (Bel M) m3 V A3 c3 q) := Lib.hid fun V hV => hR5.fr0 hV
  have HRL : Hid (∀ V, Fr [] M5 V → RF S m V A c l) := Lib.hid fun V hV => hRM5.fr0 hV
  clear hR5 hRM5 hR3
  go_wp2
  go_loopw [9] (fun i wr => ∃ k : Nat, k ≤ N ∧ i = .int .i64 k ∧ Fr [] M5 wr) (fun i _ => N - (intOf i).toNat)
  case atStart => exact ⟨0, Nat.zero_le _, rfl, hQ⟩
  case round =>
   obtain ⟨k, hk, rfl, hf⟩ := hrel
   have g1 := hf.cell g0 (by simp)
   go_wp2_with fail
   refine (HCQ.out _ _ _ _ _ (HRQ.out _ hf)).mono ?_
   rintro en w6 ⟨rfl, hf6⟩
   have hf6 := hf.trans hf6
   by_cases hlt : k < N
   rotate_left 1
   ·go_wp2_with fail
    refine (HLV.out _ (hwM5.trans hf6)).mono ?_
    rintro en w7 ⟨rfl, hf7⟩
    go_wp2
    go_ret
    exact ⟨rfl, (hfW.trans (hwM5.trans hf6)).trans hf7⟩
   obtain ⟨a, b, ha, hb, hka, hta⟩ := HAT.out k hlt
   have HA := Lib.hid ha
   have hkb : (k : Int) + sp.size ≤ 1024 := by have := HNT.out; omega
   have HKA := Lib.hid hka
   have HTA := Lib.hid hta
   clear hka hta
   clear ha g1
   have g1 := hf6.cell g0 (by simp)
   have qM6 := hf6.cell qM5 (by simp)
   have s6 := hf6.cell s5 (by simp)
   rcases Classical.em (n ≤ (k : Int)) with hc | hc
   case' inl =>
    rw [if_pos hc] at hb
    have HB := Lib.hid hb
    clear hb
    go_upto_region 17 with fail
   case' inr =>
    rw [if_neg hc] at hb
    have HB := Lib.hid hb
    clear hb
    go_upto_region 17 with fail
   all_goals (
    go_wp2_with fail
    refine (HAQ.out _ _ _ _ _ k a HA.out (HRQ.out _ hf6)).mono ?_
    rintro en w7 ⟨h7, rfl, hf7⟩
    have hf7 := hf6.trans hf7
    obtain ⟨ga, hga⟩ : ∃ g, g = w7.heap.size := ⟨_, rfl⟩
    go_upto_region 18 with fail
    rw [← hga]
    refine wp_hide (fun M8 hM8 => ?_)
    have hf8 : Fr [] w7 M8 := by rw [hM8]; exact (Fr.refl _ _).alloc _
    have hBa : Blk M8 ga 46 (ndCells a.1 h7) := by rw [hM8]; exact Blk.new _ _ _ _ hga
    have hf8 := hf7.trans hf8
    have qM8 := hf8.cell qM5 (by simp)
    clear hM8 hga g1 qM6 s6
    go_wp2_with fail
    refine (HAL.out _ _ _ _ _ _ b HB.out (HRL.out _ hf8)).mono ?_
    rintro en w9 ⟨h9, rfl, hf9⟩
    have hBa9 := hBa.fr hf9 (by simp)
    have hf9 := hf8.trans hf9
    obtain ⟨gb, hgb⟩ : ∃ g, g = w9.heap.size := ⟨_, rfl⟩
    go_upto_region 19 with fail
    rw [← hgb]
    refine wp_hide (fun M10 hM10 => ?_)
    have hf10 : Fr [] w9 M10 := by rw [hM10]; exact (Fr.refl _ _).alloc _
    have hBb : Blk M10 gb 46 (ndCells b.1 h9) := by rw [hM10]; exact Blk.new _ _ _ _ hgb
    have hBa10 := hBa9.fr hf10 (by simp)
    have hf10 := hf9.trans hf10
    clear hM10 hgb hBa hBa9 qM8
    have a0 : M10.cell? ⟨ga, 0, none⟩ = some (.int .u8 a.1.kind) := hBa10.cell 0 rfl
    have a1 : M10.cell? ⟨ga, 1, none⟩ = some (.string a.1.text) := hBa10.cell 1 rfl
    have b0 : M10.cell? ⟨gb, 0, none⟩ = some (.int .u8 a.1.kind) := by rw [HKA.out]; exact hBb.cell 0 rfl
    have b1 : M10.cell? ⟨gb, 1, none⟩ = some (.string a.1.text) := by rw [HTA.out]; exact hBb.cell 1 rfl
    clear hBa10 hBb
    go_wp2_with fail
    go_roundw
    case rel => exact ⟨k + 1, by omega, by go_num, hf10⟩
    case measure => simp [intOf]; omega)
end

end Go.Proofs.YtchldahkcpbgcaaGreatDoor
