/- Texts of this seat, one behind the other: ParH, ParI, NdF, ParP. -/
import Derived.Test.YtchldahkcpbgcaaGreatDoorsk19
import Derived.Deep.LoopGhost
import Derived.Deep.DeepCutAuto
import Derived.Deep.QuietTactic
import Derived.BigQuiet
import Derived.Test.YtchldahkcpbgcaaGreatDoorsk16
import Derived.Test.YtchldahkcpbgcaaGreatDoorsk22
import Derived.Test.YtchldahkcpbgcaaGreatDoorsk17
import Derived.Test.YtchldahkcpbgcaaGreatDoorsk21
namespace Go.Proofs.YtchldahkcpbgcaaGreatDoor
set_option linter.unusedVariables false

/- statement of the parser (printed by gen/stmt.py). -/
section
open Go.RowKit
set_option linter.unusedSimpArgs false
section
variable {X : Px} {i j : Nat}
theorem simp_kind {s : ByteArray} {k : Int} (h : simpOf s = some k) : 0 ≤ k ∧ k ≤ 255 := by
 have hm := lookup_mem h
 have : ∀ p ∈ simpL, 0 ≤ p.2 ∧ p.2 ≤ 255 := by decide
 exact this _ hm
theorem PAt.set2 {pb : Nat} {A : Option Addr} {c : Nat} {ws : List Wd} {e : Nat} {w : World} {i : Nat} (h : PAt pb A c ws e w i) (hj : i + 2 ≤ ws.length) : PAt pb A c ws e (w.setCell ⟨pb, 1, none⟩ (.int .i64 ((i : Int) + 2))) (i + 2) :=
 ⟨h.blk.set_ 1 _, h.rd.fr ((Fr.refl [pb] w).setCell (.inl (by simp)) _) (fun a ha => by simpa using h.ne a ha), h.ne, hj⟩
set_option maxRecDepth 20000 in
set_option maxHeartbeats 6400000 in
theorem statement_step {n : Nat} {r : Out} (w : World) (h : X.At w i) (hr : P X.ws (n + 1) .stmt i = some r)
    (hex : ∀ q k, P X.ws n .expr k = some q → ∀ w', X.At w' k → Calls Tryz.prog 228 #[X.p] w' (X.R1 w' q))
    (hbl : ∀ q k, P X.ws n .block k = some q → ∀ w', X.At w' k → Calls Tryz.prog 188 #[X.p] w' (X.RL w' q))
    (hot : ∀ q, P X.ws n .other i = some q → ∀ w', X.At w' i → Calls Tryz.prog 230 #[X.p] w' (X.R1 w' q)) :
    Calls Tryz.prog 214 #[X.p] w (X.R1 w r) := by
  rw [P] at hr
  obtain ⟨V, hV⟩ : ∃ V, V = w.alloc (.cells zeroN 46) := ⟨_, rfl⟩
  have hf0 : Fr [] w V := by rw [hV]; exact frx
  have hB1 : Blk V w.heap.size 46 zeroN := by rw [hV]; exact Blk.new _ _ _ _ rfl
  have hpl := X.lt h
  have hz := hf0.size
  have hVz : w.heap.size < V.heap.size := hB1.lt
  have hV0 := h.fr0 hf0
  have hAt := h
  have HV := Lib.hid hV.symm
  clear hV
  have HEX := Lib.hid hex
  have HBL := Lib.hid hbl
  have HOT := Lib.hid hot
  have HPK := Lib.hid (peek_any V hV0 X.hm)
  have HE2 := Lib.hid (nameW_eq X.ws i)
  have HE3 := Lib.hid (simpleK_eq X.ws i)
  have HLT := Lib.hid (fun t (ht : nameW X.ws i = some t) => nameW_lt ht)
  have HLT2 := Lib.hid (fun t (ht : simpleK X.ws i = some t) => simpleK_lt ht)
  clear hex hbl hot
  generalize kindAt X.ws i = kd at *
  generalize textAt X.ws i = tx at *
  generalize placeAt X.ws X.e i = pt at *
  go_enter Tryz.func214, Tryz.ntmps214
  go_wp2_with fail
  rw [HV.out]
  refine HPK.out.mono ?_
  rintro en w1 ⟨rfl, hf1⟩
  clear HPK
  obtain ⟨W, hW⟩ : ∃ W, W = w1.alloc (.cells #[.int .u8 kd, .string tx, .int .i64 pt] 183) := ⟨_, rfl⟩
  have hW1 : Fr [] w1 W := by rw [hW]; exact (Fr.refl _ _).alloc _
  have hG : Blk W w1.heap.size 183 #[.int .u8 kd, .string tx, .int .i64 pt] := by rw [hW]; exact Blk.new _ _ _ _ rfl
  obtain ⟨g, hg⟩ : ∃ g, g = w1.heap.size := ⟨_, rfl⟩
  rw [← hg] at hG
  have hz1 := hf1.size
  have hgw : w.heap.size < g := by omega
  have hgN := hG.lt
  have HN := Lib.hid hW.symm
  have HG := Lib.hid hg
  have hD := (hB1.fr hf1 (by simp)).fr hW1 (by simp)
  have a := (hV0.fr0 hf1).fr0 hW1
  have hF : Fr [X.pb] w W := ((hf0.trans hf1).trans hW1).mono (by simp)
  have hpg : g ≠ X.pb := by omega
  have k0 : W.cell? ⟨g, 0, none⟩ = some (.int .u8 kd) := hG.cell 0 rfl
  have k1 : W.cell? ⟨g, 1, none⟩ = some (.string tx) := hG.cell 1 rfl
  clear hW hg hf1 hW1 hB1 hV0 hf0
  go_upto_region 2 with fail
  rw [← HG.out, HN.out]
  clear HN HG
  obtain ⟨B, hB⟩ : ∃ B, (decide (kd = 1) && isW X.ws (i + 1) (bt [61])) = B := ⟨_, rfl⟩
  have HB := Lib.hid hB
  clear hB
  go_cut [44] from 45 (fun s wx => s = .bool B ∧ Fr [] W wx)
  case first =>
    by_cases h1 : kd = 1
    · subst h1
      have hlt : i < X.ws.length := HLT.out tx (by rw [HE2.out, if_pos rfl])
      have hml := X.hm
      obtain ⟨b0, off, hA, v0, v1, v2⟩ := a.rd.at_ (i := i + 1) (by omega)
      have p0 : W.cell? ⟨X.pb, 0, none⟩ = some (.slice X.A (X.ws.length + 1) X.c) := a.blk.cell 0 rfl
      have p1 : W.cell? ⟨X.pb, 1, none⟩ = some (.int .i64 i) := a.blk.cell 1 rfl
      rw [hA] at p0
      have HQ := Lib.hid (isW_eq X.ws (i + 1) (bt [61]))
      generalize kindAt X.ws (i + 1) = kd1 at *
      generalize textAt X.ws (i + 1) = tx1 at *
      generalize placeAt X.ws X.e (i + 1) = pt1 at *
      have hi1 : (i : Int) + 1 < (X.ws.length : Int) + 1 := by omega
      have hi2 : (0 : Int) ≤ (i : Int) + 1 := by omega
      have hnat : ((i : Int) + 1).toNat = i + 1 := by omega
      have hwr : IntKind.i64.wrap ((i : Int) + 1) = (i : Int) + 1 := IntWalk.i64_in _ (by omega)
      by_cases h3 : kd1 = 3
      · subst h3
        by_cases h4 : tx1 = bt [61]
        · have hs : (tx1.toList == [61]) = true := by rw [str_l]; simp [h4]
          have hBB : Hid (B = true) := Lib.hid (by rw [← HB.out, HQ.out]; simp [h4])
          clear h4
          go_quiet (fail)
          go_wp2_with fail
          go_meet
          exact ⟨by rw [hBB.out], frx⟩
        · have hs : (tx1.toList == [61]) = false := by rw [str_l]; simp [h4]
          have hBB : Hid (B = false) := Lib.hid (by rw [← HB.out, HQ.out]; simp [h4])
          clear h4
          go_quiet (fail)
          go_wp2_with fail
          go_meet
          exact ⟨by rw [hBB.out], frx⟩
      · have hs : (kd1 == 3) = false := by simpa using h3
        have hBB : Hid (B = false) := Lib.hid (by rw [← HB.out, HQ.out]; simp [h3])
        clear h3
        go_quiet (fail)
        go_wp2_with fail
        go_meet
        exact ⟨by rw [hBB.out], frx⟩
    · have hs : (kd == 1) = false := by simpa using h1
      have hBB : Hid (B = false) := Lib.hid (by rw [← HB.out]; simp [h1])
      clear h1
      go_quiet (fail)
      go_wp2_with fail
      go_meet
      exact ⟨by rw [hBB.out], frx⟩
  case rest =>
  obtain ⟨rfl, hfc⟩ := hcut
  have zwc := hfc.size
  have hD_wc := hD.fr hfc (by simp)
  have hF_wc := hF.trans (hfc.mono (by simp))
  have a_wc := a.fr0 hfc
  have k0 := hfc.cell k0 (by simp)
  have k1 := hfc.cell k1 (by simp)
  have hgc : g < wc.heap.size := by omega
  cases B with
  | true =>
    have hbb := HB.out
    rw [Bool.and_eq_true, decide_eq_true_eq] at hbb
    obtain ⟨h1, h2⟩ := hbb
    have hlt := isW_lt h2
    have hml := X.hm
    rw [if_pos h2, HE2.out, if_pos h1] at hr
    have hr : (andW (P X.ws n .expr (i + 2)) fun l _ j => endedW X.ws (ndk 15 tx [hd1 l]) j) = some r := hr
    clear h1 h2 HE2 HE3
    have p1 : wc.cell? ⟨X.pb, 1, none⟩ = some (.int .i64 i) := a_wc.blk.cell 1 rfl
    have z1 := a_wc.blk.frozen 1
    go_wp2_with fail
    refine wp_hide (fun M hM => ?_)
    have fM : Fr [X.pb] wc M := by rw [hM]; exact (Fr.refl _ _).setCell (.inl (by simp)) _
    have aM : X.At M (i + 2) := by rw [hM]; exact a_wc.set2 (by omega)
    have zM := fM.size
    have hD_M := fr_pb hD_wc fM (by omega)
    have hF_M := hF_wc.trans fM
    have k1 := fM.cell k1 (by simp; omega)
    clear hM p1 z1
    refine wp_region_held_drew (S := fun w' => Fr [X.pb, w.heap.size] M w') (by kernel_rfl) ((Fr.refl _ _).drew) (fun hHeld => ?_)
    refine wpAnyH_take (i := 0) (v := X.p) rfl (by kernel_rfl) (by kernel_rfl) (by kernel_rfl) (fun _ _ _ h => h) (Or.inl ⟨by rfl, fun w hSw => ?_⟩) (by assumption) ?_
    · (try dsimp only at hSw); go_simp
    try simp only [Act.put, List.setIfInBounds_toArray, List.set_cons_zero, List.set_cons_succ]
    refine wpAnyH_take (i := 1) (v := ?_) rfl (by kernel_rfl) (by kernel_rfl) (by kernel_rfl) (fun _ _ _ h => h) (Or.inl ⟨by rfl, fun w hSw => ?_⟩) (by assumption) ?_
    rotate_left 1
    · (try dsimp only at hSw)
      go_simp
      try with_reducible rfl
    try simp only [Act.put, List.setIfInBounds_toArray, List.set_cons_zero, List.set_cons_succ]
    refine wpAnyH_take (i := 2) (v := ?_) rfl (by kernel_rfl) (by kernel_rfl) (by kernel_rfl) (fun _ _ _ h => h) (Or.inl ⟨by rfl, fun w hSw => ?_⟩) (by assumption) ?_
    rotate_left 1
    · (try dsimp only at hSw)
      have z1 := hSw.cell k1 (by simp; omega)
      go_simp
      try with_reducible rfl
    try simp only [Act.put, List.setIfInBounds_toArray, List.set_cons_zero, List.set_cons_succ]
    refine wpAnyH_take (i := 3) (v := X.p) rfl (by kernel_rfl) (by kernel_rfl) (by kernel_rfl) (fun _ _ _ h => h) (Or.inl ⟨by rfl, fun w hSw => ?_⟩) (by assumption) ?_
    · (try dsimp only at hSw); go_simp
    try simp only [Act.put, List.setIfInBounds_toArray, List.set_cons_zero, List.set_cons_succ]
    cases hq : P X.ws n .expr (i + 2) with
    | none => rw [hq] at hr; cases hr
    | some q =>
      rw [hq] at hr
      refine wpAnyH_ready (rs := [4]) (by kernel_rfl) (by simp) ?_
      refine AllReadyH.cons rfl (fun K hK => ?_) AllReadyH.nil
      go_simp
      refine (HEX.out q (i + 2) hq _ (aM.fr0 frx)).mono ?_
      clear hq
      intro en w5 hp5
      cases q with
      | bad k2 =>
        obtain ⟨rfl, hf5⟩ := hp5
        have hr : some (Out.bad k2) = some r := hr
        injection hr with hr
        subst hr
        exact ⟨rfl, rfl, (hF_M).trans (Fr.trans frx hf5)⟩
      | ok l b2 k2 =>
        obtain ⟨hdy, ny, rfl, hy, hf5, a5⟩ := hp5
        have hr4 : endedW X.ws (ndk 15 tx [hd1 l]) k2 = some r := hr
        clear hr
        generalize hd1 l = y at *
        unfold endedW at hr4
        have hfm : Fr [X.pb] M w5 := Fr.trans frx hf5
        have hy : NdH (Bel M) ny w5 hdy y := hy
        clear hf5
        have zw5 := hfm.size
        have hD_w5 := fr_pb hD_M hfm (by omega)
        have hF_w5 := hF_M.trans hfm
        refine hK.out _ _ (Fr.mono hfm (by simp)) (fun hHeld2 => ?_)
        clear hK K hHeld
        have hHeld := hHeld2
        clear hHeld2
        try simp only [Act.put, List.setIfInBounds_toArray, List.set_cons_zero, List.set_cons_succ]
        refine wpAnyH_ready (rs := [5]) (by kernel_rfl) (by simp) ?_
        refine AllReadyH.cons rfl (fun K hK => ?_) AllReadyH.nil
        go_simp
        refine hK.out _ _ (hHeld.alloc _) (fun hHeld2 => ?_)
        clear hK K hHeld
        have hHeld := hHeld2
        clear hHeld2
        try simp only [Act.put, List.setIfInBounds_toArray, List.set_cons_zero, List.set_cons_succ]
        refine wpAnyH_ready (rs := [6]) (by kernel_rfl) (by simp) ?_
        refine AllReadyH.cons rfl (fun K hK => ?_) AllReadyH.nil
        go_simp
        refine hK.out _ _ (hHeld) (fun hHeld2 => ?_)
        clear hK K hHeld
        have hHeld := hHeld2
        clear hHeld2
        try simp only [Act.put, List.setIfInBounds_toArray, List.set_cons_zero, List.set_cons_succ]
        have hN6 : Fr [] w5 (w5.alloc (.cells (ndCells y hdy) 46)) := (Fr.refl _ _).alloc _
        have hR6 : Blk (w5.alloc (.cells (ndCells y hdy) 46)) w5.heap.size 46 (ndCells y hdy) := Blk.new _ _ _ _ rfl
        have hD6 := hD_w5.fr hN6 (by simp)
        have a6 := a5.fr0 hN6
        have hF6 := hF_w5.trans (hN6.mono (by simp))
        have hy6 := NdH.sub_ (S := fun b => b ≤ w.heap.size) (n := ny + 1) (k := 15) (t := tx) (by omega) (LN.one hR6 (by show ¬ w5.heap.size ≤ w.heap.size; omega) ((hy.sub fun k _ hk => by
          have hlt5 : k < M.heap.size := by omega
          exact hlt5).fr0 hN6))
        cases h3 : isW X.ws k2 (bt [59]) with
        | false =>
          rw [h3, if_neg (by simp)] at hr4
          injection hr4 with hr4
          subst hr4
          have H3 := Lib.hid h3
          clear h3
          refine wpAnyH_ready (rs := [7]) (by kernel_rfl) (by simp) ?_
          refine AllReadyH.cons rfl (fun K hK => ?_) AllReadyH.nil
          go_simp
          refine (ended_bad (ndk 15 tx [y]) ⟨some ⟨w5.heap.size, 0, none⟩, 1, none, 0, none, 0, none, 0⟩ a6 H3.out).mono ?_
          rintro en w7 ⟨rfl, hf7⟩
          exact ⟨rfl, rfl, hF6.trans hf7⟩
        | true =>
          rw [h3, if_pos rfl] at hr4
          injection hr4 with hr4
          subst hr4
          have H3 := Lib.hid h3
          clear h3
          refine wpAnyH_ready (rs := [7]) (by kernel_rfl) (by simp) ?_
          refine AllReadyH.cons rfl (fun K hK => ?_) AllReadyH.nil
          go_simp
          refine (ended_ok (ndk 15 tx [y]) ⟨some ⟨w5.heap.size, 0, none⟩, 1, none, 0, none, 0, none, 0⟩ a6 H3.out).mono ?_
          rintro en w7 ⟨rfl, hf7, a7⟩
          have hD7 := fr_pb hD6 hf7 (by omega)
          have hy7 := hy6.fr hf7 (fun k hk => by simp at hk; subst hk; omega)
          have hF7 := hF6.trans hf7
          have c0 := hD7.cell 0 rfl
          have c1 := hD7.cell 1 rfl
          have c2 := hD7.cell 2 rfl
          have c3 := hD7.cell 3 rfl
          have c4 := hD7.cell 4 rfl
          have c5 := hD7.cell 5 rfl
          have c6 := hD7.cell 6 rfl
          have cz0 := hD7.frozen 0
          have cz1 := hD7.frozen 1
          have cz2 := hD7.frozen 2
          have cz3 := hD7.frozen 3
          have cz4 := hD7.frozen 4
          have cz5 := hD7.frozen 5
          have cz6 := hD7.frozen 6
          refine hK.out _ _ (hHeld.trans (hf7.mono (by simp))) (fun hHeld2 => ?_)
          clear hK K hHeld
          have hHeld := hHeld2
          clear hHeld2
          try simp only [Act.put, List.setIfInBounds_toArray, List.set_cons_zero, List.set_cons_succ]
          refine wpAnyH_ready (rs := [8]) (by kernel_rfl) (by simp) ?_
          refine AllReadyH.cons rfl (fun K hK => ?_) AllReadyH.nil
          go_simp
          refine hK.out _ _ (fr_node hHeld (.inl (by simp)) _ _ _ _ _ _ _) (fun hHeld2 => ?_)
          clear hK K hHeld
          have hHeld := hHeld2
          clear hHeld2
          try simp only [Act.put, List.setIfInBounds_toArray, List.set_cons_zero, List.set_cons_succ]
          refine wpAnyH_done (by kernel_rfl) ?_ _
          go_wp2_with fail
          refine bodyPost_ret (results_node (x := (ndk 15 tx [y])) (hd := ⟨some ⟨w5.heap.size, 0, none⟩, 1, none, 0, none, 0, none, 0⟩) rfl _ _ w.heap.size rfl (hD7.node _ _ _ _ _ _ _)) rfl ?_
          exact Nd1.fin hAt hF7 a7 hD7.lt hy7
  | false =>
    have hno : (if isW X.ws (i + 1) (bt [61]) then nameW X.ws i else none) = none := by
      have hbb := HB.out
      rw [HE2.out]
      by_cases h1 : kd = 1
      · rw [decide_eq_true h1, Bool.true_and] at hbb
        rw [hbb, if_neg (by simp)]
      · rw [if_neg h1]
        split <;> rfl
    rw [hno] at hr
    simp only at hr
    clear hno HB HE2
    have HS := Lib.hid (simple_any tx wc)
    go_wp2_with fail
    refine HS.out.mono ?_
    rintro en w3 ⟨rfl, hf3⟩
    clear HS
    have zw3 := hf3.size
    have hD_w3 := hD_wc.fr hf3 (by simp)
    have hF_w3 := hF_wc.trans (hf3.mono (by simp))
    have a_w3 := a_wc.fr0 hf3
    have k0 := hf3.cell k0 (by simp)
    have k1 := hf3.cell k1 (by simp)
    obtain ⟨ok, hok⟩ : ∃ ok, (simpOf tx).isSome = ok := ⟨_, rfl⟩
    obtain ⟨kk, hkk⟩ : ∃ kk, (simpOf tx).getD 0 = kk := ⟨_, rfl⟩
    rw [hok, hkk]
    have HOK := Lib.hid hok
    have HKK := Lib.hid hkk
    clear hok hkk
    go_upto_region 6 with fail
    go_cut [71] from 72 (fun s wx => s = .bool (ok && decide (kd = 3)) ∧ Fr [] w3 wx)
    case first =>
      cases ok
      · go_wp2_with fail
        go_meet
        exact ⟨rfl, frx⟩
      · by_cases h3 : kd = 3
        · subst h3
          go_wp2_with fail
          go_meet
          exact ⟨rfl, frx⟩
        · have hs : (kd == 3) = false := by simpa using h3
          have HB3 : Hid (decide (kd = 3) = false) := Lib.hid (by simpa using h3)
          clear h3
          go_wp2_with fail
          go_meet
          exact ⟨by rw [HB3.out]; rfl, frx⟩
    case rest =>
    obtain ⟨rfl, hfd⟩ := hcut
    have zwc := hfd.size
    have hD_wc := hD_w3.fr hfd (by simp)
    have hF_wc := hF_w3.trans (hfd.mono (by simp))
    have a_wc := a_w3.fr0 hfd
    have k0 := hfd.cell k0 (by simp)
    have k1 := hfd.cell k1 (by simp)
    obtain ⟨B3, hB3⟩ : ∃ B3, (ok && decide (kd = 3)) = B3 := ⟨_, rfl⟩
    rw [hB3]
    have HB3 := Lib.hid hB3
    clear hB3
    cases B3 with
    | true =>
      have hbb := HB3.out
      rw [Bool.and_eq_true, decide_eq_true_eq] at hbb
      obtain ⟨h1, h2⟩ := hbb
      have hso : simpOf tx = some kk := by
        have e1 := HOK.out
        have e2 := HKK.out
        rw [h1] at e1
        cases hz : simpOf tx with
        | none => rw [hz] at e1; cases e1
        | some v => rw [hz] at e2; simp at e2; rw [e2]
      have hsk : simpleK X.ws i = some kk := by rw [HE3.out, if_pos h2, hso]
      have hlt := HLT2.out kk hsk
      have hkr := simp_kind hso
      rw [hsk] at hr
      have hr : (andW (P X.ws n .expr (i + 1)) fun l _ j => endedW X.ws (ndk kk (bt []) [hd1 l]) j) = some r := hr
      clear h1 h2 hso hsk HE3 HOK HKK HB3
      have hml := X.hm
      have p1 : wc.cell? ⟨X.pb, 1, none⟩ = some (.int .i64 i) := a_wc.blk.cell 1 rfl
      have z1 := a_wc.blk.frozen 1
      go_wp2_with fail
      refine calls_hide (fun M hM => ?_)
      have fM : Fr [X.pb] wc M := by rw [hM]; exact (Fr.refl _ _).setCell (.inl (by simp)) _
      have aM : X.At M (i + 1) := by rw [hM]; exact a_wc.set (by omega)
      have zM := fM.size
      have hD_M := fr_pb hD_wc fM (by omega)
      have hF_M := hF_wc.trans fM
      clear hM p1 z1
      cases hq : P X.ws n .expr (i + 1) with
      | none => rw [hq] at hr; cases hr
      | some q =>
        rw [hq] at hr
        refine (HEX.out q (i + 1) hq _ (aM.fr0 frx)).mono ?_
        clear hq
        intro en w5 hp5
        cases q with
        | bad k2 =>
          obtain ⟨rfl, hf5⟩ := hp5
          have hr : some (Out.bad k2) = some r := hr
          injection hr with hr
          subst hr
          go_wp2_with fail
          exact ⟨rfl, rfl, (hF_M).trans (Fr.trans frx hf5)⟩
        | ok l b2 k2 =>
          obtain ⟨hdy, ny, rfl, hy, hf5, a_w5⟩ := hp5
          have hr : endedW X.ws (ndk kk (bt []) [hd1 l]) k2 = some r := hr
          generalize hd1 l = y at *
          have hfm : Fr [X.pb] M w5 := Fr.trans frx hf5
          have hy : NdH (Bel M) ny w5 hdy y := hy
          clear hf5
          have zw5 := hfm.size
          have hD_w5 := fr_pb hD_M hfm (by omega)
          have hF_w5 := hF_M.trans hfm
          go_wp2_with fail
          refine calls_hide (fun M6 hM6 => ?_)
          have f6 : Fr [] w5 M6 := by rw [hM6]; exact frx
          have hR6 : Blk M6 w5.heap.size 46 (ndCells y hdy) := by rw [hM6]; exact Blk.new _ _ _ _ rfl
          have zM6 := f6.size
          have hD_M6 := hD_w5.fr f6 (by simp)
          have hF_M6 := hF_w5.trans (f6.mono (by simp))
          have a_M6 := a_w5.fr0 f6
          have hy6 := NdH.sub_ (S := fun b => b ≤ w.heap.size) (n := ny + 1) (k := kk) (t := (bt [])) hkr (LN.one hR6 (by show ¬ w5.heap.size ≤ w.heap.size; omega) ((hy.sub fun k _ hk => by
            have hlt5 : k < M.heap.size := by omega
            exact hlt5).fr0 f6))
          clear hM6 hy
          unfold endedW at hr
          cases h3 : isW X.ws k2 (bt [59]) with
          | false =>
            rw [h3, if_neg (by simp)] at hr
            injection hr with hr
            subst hr
            refine (ended_bad (ndk kk (bt []) [y]) ⟨some ⟨w5.heap.size, 0, none⟩, 1, none, 0, none, 0, none, 0⟩ a_M6 h3).mono ?_
            rintro en w7 ⟨rfl, hf7⟩
            clear h3
            go_wp2_with fail
            exact ⟨rfl, rfl, (hF_M6).trans hf7⟩
          | true =>
            rw [h3, if_pos rfl] at hr
            injection hr with hr
            subst hr
            refine (ended_ok (ndk kk (bt []) [y]) ⟨some ⟨w5.heap.size, 0, none⟩, 1, none, 0, none, 0, none, 0⟩ a_M6 h3).mono ?_
            rintro en w7 ⟨rfl, hf7, a7⟩
            clear h3
            have hD7 := fr_pb hD_M6 hf7 (by omega)
            have hy7 := hy6.fr hf7 (fun k hk => by simp at hk; subst hk; omega)
            have hF7 := (hF_M6).trans hf7
            have c0 := hD7.cell 0 rfl
            have c1 := hD7.cell 1 rfl
            have c2 := hD7.cell 2 rfl
            have c3 := hD7.cell 3 rfl
            have c4 := hD7.cell 4 rfl
            have c5 := hD7.cell 5 rfl
            have c6 := hD7.cell 6 rfl
            have cz0 := hD7.frozen 0
            have cz1 := hD7.frozen 1
            have cz2 := hD7.frozen 2
            have cz3 := hD7.frozen 3
            have cz4 := hD7.frozen 4
            have cz5 := hD7.frozen 5
            have cz6 := hD7.frozen 6
            go_wp2_with fail
            refine bodyPost_ret (results_node (x := (ndk kk (bt []) [y])) (hd := ⟨some ⟨w5.heap.size, 0, none⟩, 1, none, 0, none, 0, none, 0⟩) rfl _ _ w.heap.size rfl (hD7.node _ _ _ _ _ _ _)) rfl ?_
            exact Nd1.fin hAt hF7 a7 hD7.lt hy7
    | false =>
      have hsk : simpleK X.ws i = none := by
        rw [HE3.out]
        have hbb := HB3.out
        by_cases h2 : kd = 3
        · rw [if_pos h2]
          rw [decide_eq_true h2, Bool.and_true] at hbb
          have e1 := HOK.out
          rw [hbb] at e1
          cases hz : simpOf tx with
          | none => rfl
          | some v => rw [hz] at e1; cases e1
        · rw [if_neg h2]
      rw [hsk] at hr
      simp only at hr
      clear hsk HE3 HOK HKK HB3 k0 k1
      have hml := X.hm
      cases hk0 : isW X.ws i (bt [108, 101, 116]) with
      | true =>
        rw [hk0, if_pos rfl] at hr
        have hlt := isW_lt hk0
        go_wp2_with fail
        refine (has_ok (a_wc.fr0 frx) hk0).mono ?_
        rintro en w2 ⟨rfl, fw2, a_w2⟩
        clear hk0
        have fw2 : Fr [X.pb] wc w2 := Fr.trans frx fw2
        have zw2 := fw2.size
        have hD_w2 := fr_pb hD_wc fw2 (by omega)
        have hF_w2 := hF_wc.trans fw2
        go_wp2_with fail
        cases hnm : nameW X.ws (i + 1) with
        | none =>
          rw [hnm] at hr
          injection hr with hr
          subst hr
          refine (name_bad (a_w2.fr0 frx) hnm).mono ?_
          rintro en w9 ⟨rfl, hf9⟩
          clear hnm
          go_wp2_with fail
          exact ⟨rfl, rfl, (hF_w2).trans (Fr.trans frx hf9)⟩
        | some t =>
          rw [hnm] at hr
          simp only at hr
          refine (name_ok (a_w2.fr0 frx) hnm).mono ?_
          rintro en w3 ⟨rfl, fw3, a_w3⟩
          clear hnm
          have fw3 : Fr [X.pb] w2 w3 := Fr.trans frx fw3
          have zw3 := fw3.size
          have hD_w3 := fr_pb hD_w2 fw3 (by omega)
          have hF_w3 := hF_w2.trans fw3
          go_wp2_with fail
          refine calls_hide (fun M4 hM4 => ?_)
          have fM4 : Fr [] w3 M4 := by rw [hM4]; exact frx
          have hTM4 : Blk M4 (w3.heap.size) 46 #[.int .u8 14, .string t, .int .i64 0, .slice none 0 0, .slice none 0 0, .slice none 0 0, .slice none 0 0] := by rw [hM4]; exact Blk.new _ _ _ _ rfl
          have hTl := hTM4.lt
          clear hM4
          have zM4 := fM4.size
          have hD_M4 := hD_w3.fr fM4 (by simp)
          have hF_M4 := hF_w3.trans (fM4.mono (by simp))
          have a_M4 := a_w3.fr0 fM4
          cases htk : isW X.ws (i + 2) (bt [61]) with
          | false =>
            rw [htk, if_neg (by simp)] at hr
            injection hr with hr
            subst hr
            refine (take_bad a_M4 htk).mono ?_
            rintro en w9 ⟨rfl, hf9⟩
            clear htk
            go_wp2_with fail
            exact ⟨rfl, rfl, (hF_M4).trans hf9⟩
          | true =>
            rw [htk, if_pos rfl] at hr
            refine (take_ok a_M4 htk).mono ?_
            rintro en w4 ⟨rfl, fw4, a_w4⟩
            clear htk
            have zw4 := fw4.size
            have hD_w4 := fr_pb hD_M4 fw4 (by omega)
            have hTM4_w4 := fr_pb hTM4 fw4 (by omega)
            have hF_w4 := hF_M4.trans fw4
            have hr : (andW (P X.ws n .expr (i + 3)) fun l _ j => endedW X.ws (ndk 14 t [hd1 l]) j) = some r := hr
            go_wp2_with fail
            cases hq : P X.ws n .expr (i + 3) with
            | none => rw [hq] at hr; cases hr
            | some q =>
              rw [hq] at hr
              refine (HEX.out q (i + 3) hq _ (a_w4.fr0 frx)).mono ?_
              clear hq
              intro en w5 hp5
              cases q with
              | bad k2 =>
                obtain ⟨rfl, hf5⟩ := hp5
                have hr : some (Out.bad k2) = some r := hr
                injection hr with hr
                subst hr
                go_wp2_with fail
                exact ⟨rfl, rfl, (hF_w4).trans (Fr.trans frx hf5)⟩
              | ok l b2 k2 =>
                obtain ⟨hdy, ny, rfl, hy, hf5, a_w5⟩ := hp5
                have hr : endedW X.ws (ndk 14 t [hd1 l]) k2 = some r := hr
                generalize hd1 l = y at *
                have hfm : Fr [X.pb] w4 w5 := Fr.trans frx hf5
                have hy : NdH (Bel w4) ny w5 hdy y := hy
                clear hf5
                have zw5 := hfm.size
                have hD_w5 := fr_pb hD_w4 hfm (by omega)
                have hTM4_w5 := fr_pb hTM4_w4 hfm (by omega)
                have hF_w5 := hF_w4.trans hfm
                have hyS : NdH (fun b => b ≤ w.heap.size ∨ b = w3.heap.size) ny w5 hdy y := hy.sub fun k _ hk => by
                  have hlt5 : k < w4.heap.size := by rcases hk with hk | hk <;> omega
                  exact hlt5
                have hTA := hTM4_w5.alloc (.cells (ndCells y hdy) 46)
                have x3 : (w5.alloc (.cells (ndCells y hdy) 46)).cell? ⟨w3.heap.size, 3, none⟩ = some (.slice none 0 0) := hTA.cell 3 rfl
                have y3 := hTA.frozen 3
                go_upto_region 13 with fail
                refine wp_hide (fun M6 hM6 => ?_)
                have fM6 : Fr [w3.heap.size] w5 M6 := by rw [hM6]; exact ((Fr.refl _ _).alloc _).setCell (.inl (by simp)) _
                have hR6 : Blk M6 w5.heap.size 46 (ndCells y hdy) := by rw [hM6]; exact (Blk.new _ _ _ _ rfl).far (p := ⟨w3.heap.size, 3, none⟩) (by show w5.heap.size ≠ w3.heap.size; omega) _
                have hT6 : Blk M6 (w3.heap.size) 46 #[.int .u8 14, .string t, .int .i64 0, .slice (some ⟨w5.heap.size, 0, none⟩) 1 1, .slice none 0 0, .slice none 0 0, .slice none 0 0] := by rw [hM6]; simpa using (hTM4_w5.alloc (.cells (ndCells y hdy) 46)).set_ 3 (.slice (some ⟨w5.heap.size, 0, none⟩) 1 1)
                clear hM6 x3 y3
                have zM6 := fM6.size
                have hD_M6 := hD_w5.fr fM6 (by simp <;> omega)
                have hF_M6 : Fr [X.pb] w M6 := hF_w5.trans2 fM6 (fun x hx => by simp at hx; subst hx; exact .inr (by omega))
                have a_M6 := At.new hAt a_w5 fM6 (by simp <;> omega)
                have hy6 := NdH.sub_ (S := (fun b => b ≤ w.heap.size ∨ b = w3.heap.size)) (n := ny + 1) (k := 14) (t := t) (by omega) (LN.one hR6 (by show ¬ (_ ∨ _); omega) (hyS.fr fM6 (fun k hk => by simp at hk; subst hk; exact .inr rfl)))
                have d0 := hT6.cell 0 rfl
                have d1 := hT6.cell 1 rfl
                have d2 := hT6.cell 2 rfl
                have d3 := hT6.cell 3 rfl
                have d4 := hT6.cell 4 rfl
                have d5 := hT6.cell 5 rfl
                have d6 := hT6.cell 6 rfl
                have dz0 := hT6.frozen 0
                have dz1 := hT6.frozen 1
                have dz2 := hT6.frozen 2
                have dz3 := hT6.frozen 3
                have dz4 := hT6.frozen 4
                have dz5 := hT6.frozen 5
                have dz6 := hT6.frozen 6
                clear hy
                go_wp2_with fail
                unfold endedW at hr
                cases h3 : isW X.ws k2 (bt [59]) with
                | false =>
                  rw [h3, if_neg (by simp)] at hr
                  injection hr with hr
                  subst hr
                  refine (ended_bad (ndk 14 t [y]) ⟨some ⟨w5.heap.size, 0, none⟩, 1, none, 0, none, 0, none, 0⟩ a_M6 h3).mono ?_
                  rintro en w7 ⟨rfl, hf7⟩
                  clear h3
                  go_wp2_with fail
                  exact ⟨rfl, rfl, (hF_M6).trans hf7⟩
                | true =>
                  rw [h3, if_pos rfl] at hr
                  injection hr with hr
                  subst hr
                  refine (ended_ok (ndk 14 t [y]) ⟨some ⟨w5.heap.size, 0, none⟩, 1, none, 0, none, 0, none, 0⟩ a_M6 h3).mono ?_
                  rintro en w7 ⟨rfl, hf7, a7⟩
                  clear h3
                  have hD7 := fr_pb hD_M6 hf7 (by omega)
                  have hy7 := hy6.fr hf7 (fun k hk => by simp at hk; subst hk; exact .inl (by omega))
                  have hF7 := (hF_M6).trans hf7
                  have c0 := hD7.cell 0 rfl
                  have c1 := hD7.cell 1 rfl
                  have c2 := hD7.cell 2 rfl
                  have c3 := hD7.cell 3 rfl
                  have c4 := hD7.cell 4 rfl
                  have c5 := hD7.cell 5 rfl
                  have c6 := hD7.cell 6 rfl
                  have cz0 := hD7.frozen 0
                  have cz1 := hD7.frozen 1
                  have cz2 := hD7.frozen 2
                  have cz3 := hD7.frozen 3
                  have cz4 := hD7.frozen 4
                  have cz5 := hD7.frozen 5
                  have cz6 := hD7.frozen 6
                  go_wp2_with fail
                  refine bodyPost_ret (results_node (x := (ndk 14 t [y])) (hd := ⟨some ⟨w5.heap.size, 0, none⟩, 1, none, 0, none, 0, none, 0⟩) rfl _ _ w.heap.size rfl (hD7.node _ _ _ _ _ _ _)) rfl ?_
                  exact Nd1.fin hAt hF7 a7 hD7.lt (hy7.sub fun k _ hk => .inl hk)
      | false =>
        rw [hk0, if_neg (by simp)] at hr
        go_wp2_with fail
        refine (has_no (a_wc.fr0 frx) hk0).mono ?_
        rintro en wn0 ⟨rfl, fwn0, a_wn0⟩
        clear hk0
        have fwn0 : Fr [X.pb] wc wn0 := Fr.trans frx fwn0
        have zwn0 := fwn0.size
        have hD_wn0 := fr_pb hD_wc fwn0 (by omega)
        have hF_wn0 := hF_wc.trans fwn0
        cases hk1 : isW X.ws i (bt [105, 102]) with
        | true =>
          rw [hk1, if_pos rfl] at hr
          have hlt := isW_lt hk1
          go_wp2_with fail
          refine (has_ok (a_wn0.fr0 frx) hk1).mono ?_
          rintro en w2 ⟨rfl, fw2, a_w2⟩
          clear hk1
          have fw2 : Fr [X.pb] wn0 w2 := Fr.trans frx fw2
          have zw2 := fw2.size
          have hD_w2 := fr_pb hD_wn0 fw2 (by omega)
          have hF_w2 := hF_wn0.trans fw2
          go_wp2_with fail
          cases hq : P X.ws n .expr (i + 1) with
          | none => rw [hq] at hr; cases hr
          | some q =>
            rw [hq] at hr
            refine (HEX.out q (i + 1) hq _ (a_w2.fr0 frx)).mono ?_
            clear hq
            intro en w5 hp5
            cases q with
            | bad k2 =>
              obtain ⟨rfl, hf5⟩ := hp5
              have hr : some (Out.bad k2) = some r := hr
              injection hr with hr
              subst hr
              go_wp2_with fail
              exact ⟨rfl, rfl, (hF_w2).trans (Fr.trans frx hf5)⟩
            | ok l b2 k2 =>
              obtain ⟨hdy, ny, rfl, hy, hf5, a_w5⟩ := hp5
              have hr : (andW (P X.ws n .block k2) fun b _ j2 => if isW X.ws j2 (bt [101, 108, 115, 101]) then andW (P X.ws n .block (j2 + 1)) fun e _ j3 => some (.ok [.mk 17 (bt []) 0 [hd1 l] [] b e] false j3) else some (.ok [.mk 17 (bt []) 0 [hd1 l] [] b []] false j2)) = some r := hr
              generalize hd1 l = y at *
              have hfm : Fr [X.pb] w2 w5 := Fr.trans frx hf5
              have hy : NdH (Bel w2) ny w5 hdy y := hy
              clear hf5
              have zw5 := hfm.size
              have hD_w5 := fr_pb hD_w2 hfm (by omega)
              have hF_w5 := hF_w2.trans hfm
              go_wp2_with fail
              refine calls_hide (fun M6 hM6 => ?_)
              have fM6 : Fr [] w5 M6 := by rw [hM6]; exact frx
              have hRM6 : Blk M6 w5.heap.size 46 (ndCells y hdy) := by rw [hM6]; exact (Blk.new _ _ _ _ rfl).alloc _
              have hTM6 : Blk M6 (w5.heap.size + 1) 46 #[.int .u8 17, .string ⟨#[]⟩, .int .i64 0, .slice (some ⟨w5.heap.size, 0, none⟩) 1 1, .slice none 0 0, .slice none 0 0, .slice none 0 0] := by rw [hM6]; exact Blk.new _ _ _ _ (by simp)
              have hTl := hTM6.lt
              clear hM6
              have zM6 := fM6.size
              have hD_M6 := hD_w5.fr fM6 (by simp)
              have hF_M6 := hF_w5.trans (fM6.mono (by simp))
              have a_M6 := a_w5.fr0 fM6
              have hSM6 : LN (fun b => b ≤ w.heap.size ∨ b = w5.heap.size + 1) (ny + 1) M6 (some ⟨w5.heap.size, 0, none⟩) 1 [y] := LN.one hRM6 (by show ¬ (_ ∨ _); omega) ((hy.sub fun k hk hS => by
                have hlt5 : k < w2.heap.size := by rcases hS with hS | hS <;> omega
                exact hlt5).fr0 fM6)
              cases hq : P X.ws n .block k2 with
              | none => rw [hq] at hr; cases hr
              | some q =>
                rw [hq] at hr
                refine (HBL.out q k2 hq _ (a_M6.fr0 frx)).mono ?_
                clear hq
                intro en w8 hp5
                cases q with
                | bad k2 =>
                  obtain ⟨rfl, hf5⟩ := hp5
                  have hr : some (Out.bad k2) = some r := hr
                  injection hr with hr
                  subst hr
                  go_wp2_with fail
                  exact ⟨rfl, rfl, (hF_M6).trans (Fr.trans frx hf5)⟩
                | ok bb b2 k2 =>
                  obtain ⟨Abb, cbb, nbb, rfl, hbb, hf5, a_w8⟩ := hp5
                  have hr : (if isW X.ws k2 (bt [101, 108, 115, 101]) then andW (P X.ws n .block (k2 + 1)) fun e _ j3 => some (.ok [.mk 17 (bt []) 0 [y] [] bb e] false j3) else some (.ok [.mk 17 (bt []) 0 [y] [] bb []] false k2)) = some r := hr
                  have hfm : Fr [X.pb] M6 w8 := Fr.trans frx hf5
                  have hbb : LN (Bel M6) nbb w8 Abb cbb bb := hbb
                  clear hf5
                  have zw8 := hfm.size
                  have hD_w8 := fr_pb hD_M6 hfm (by omega)
                  have hTM6_w8 := fr_pb hTM6 hfm (by omega)
                  have hSM6_w8 := hSM6.fr hfm (fun k hk => by simp at hk; subst hk; exact .inl (by omega))
                  have hF_w8 := hF_M6.trans hfm
                  have hB8 : LN (fun b => b ≤ w.heap.size ∨ b = w5.heap.size + 1) nbb w8 Abb cbb bb := hbb.sub fun k _ hk => by
                    have hlt5 : k < M6.heap.size := by rcases hk with hk | hk <;> omega
                    exact hlt5
                  have x5 : w8.cell? ⟨w5.heap.size + 1, 5, none⟩ = some (.slice none 0 0) := hTM6_w8.cell 5 rfl
                  have y5 := hTM6_w8.frozen 5
                  go_wp2_with fail
                  refine calls_hide (fun M9 hM9 => ?_)
                  have fM9 : Fr [w5.heap.size + 1] w8 M9 := by rw [hM9]; exact (Fr.refl _ _).setCell (.inl (by simp)) _
                  have hTM9 : Blk M9 (w5.heap.size + 1) 46 #[.int .u8 17, .string ⟨#[]⟩, .int .i64 0, .slice (some ⟨w5.heap.size, 0, none⟩) 1 1, .slice none 0 0, .slice Abb bb.length cbb, .slice none 0 0] := by rw [hM9]; simpa using hTM6_w8.set_ 5 (.slice Abb bb.length cbb)
                  clear hM9
                  have zM9 := fM9.size
                  have hD_M9 := hD_w8.fr fM9 (by simp <;> omega)
                  have hSM6_M9 := hSM6_w8.fr fM9 (fun k hk => by simp at hk; subst hk; exact .inr rfl)
                  have hB8_M9 := hB8.fr fM9 (fun k hk => by simp at hk; subst hk; exact .inr rfl)
                  have hF_M9 : Fr [X.pb] w M9 := hF_w8.trans2 fM9 (fun x hx => by simp at hx; subst hx; exact .inr (by omega))
                  have a_M9 := At.new hAt a_w8 fM9 (by simp <;> omega)
                  cases hel : isW X.ws k2 (bt [101, 108, 115, 101]) with
                  | false =>
                    rw [hel, if_neg (by simp)] at hr
                    refine (has_no a_M9 hel).mono ?_
                    rintro en w10 ⟨rfl, fw10, a_w10⟩
                    clear hel
                    have zw10 := fw10.size
                    have hD_w10 := fr_pb hD_M9 fw10 (by omega)
                    have hTM9_w10 := fr_pb hTM9 fw10 (by omega)
                    have hSM6_w10 := hSM6_M9.fr fw10 (fun k hk => by simp at hk; subst hk; exact .inl (by omega))
                    have hB8_w10 := hB8_M9.fr fw10 (fun k hk => by simp at hk; subst hk; exact .inl (by omega))
                    have hF_w10 := hF_M9.trans fw10
                    obtain ⟨NN, hNN⟩ : ∃ NN, NN = ny + 1 + nbb + 1 := ⟨_, rfl⟩
                    injection hr with hr
                    subst hr
                    have c0 := hD_w10.cell 0 rfl
                    have c1 := hD_w10.cell 1 rfl
                    have c2 := hD_w10.cell 2 rfl
                    have c3 := hD_w10.cell 3 rfl
                    have c4 := hD_w10.cell 4 rfl
                    have c5 := hD_w10.cell 5 rfl
                    have c6 := hD_w10.cell 6 rfl
                    have cz0 := hD_w10.frozen 0
                    have cz1 := hD_w10.frozen 1
                    have cz2 := hD_w10.frozen 2
                    have cz3 := hD_w10.frozen 3
                    have cz4 := hD_w10.frozen 4
                    have cz5 := hD_w10.frozen 5
                    have cz6 := hD_w10.frozen 6
                    have d0 := hTM9_w10.cell 0 rfl
                    have d1 := hTM9_w10.cell 1 rfl
                    have d2 := hTM9_w10.cell 2 rfl
                    have d3 := hTM9_w10.cell 3 rfl
                    have d4 := hTM9_w10.cell 4 rfl
                    have d5 := hTM9_w10.cell 5 rfl
                    have d6 := hTM9_w10.cell 6 rfl
                    have dz0 := hTM9_w10.frozen 0
                    have dz1 := hTM9_w10.frozen 1
                    have dz2 := hTM9_w10.frozen 2
                    have dz3 := hTM9_w10.frozen 3
                    have dz4 := hTM9_w10.frozen 4
                    have dz5 := hTM9_w10.frozen 5
                    have dz6 := hTM9_w10.frozen 6
                    go_wp2_with fail
                    refine bodyPost_ret (results_node (x := (.mk 17 (bt []) 0 [y] [] bb [])) (hd := ⟨some ⟨w5.heap.size, 0, none⟩, 1, none, 0, Abb, cbb, none, 0⟩) rfl _ _ w.heap.size rfl (hD_w10.node _ _ _ _ _ _ _)) rfl ?_
                    exact Nd1.fin hAt hF_w10 a_w10 hD_w10.lt ((NdH.mk_ (h := ⟨some ⟨w5.heap.size, 0, none⟩, 1, none, 0, Abb, cbb, none, 0⟩) (by omega) (by omega) (hSM6_w10.mono (m := NN) (by omega)) (RdS.nil0 _ _ _) (hB8_w10.mono (m := NN) (by omega)) ((LN.nil0 _ 0 _ _).mono (by omega))).sub fun k _ hk => .inl hk)
                  | true =>
                    rw [hel, if_pos rfl] at hr
                    refine (has_ok a_M9 hel).mono ?_
                    rintro en w10 ⟨rfl, fw10, a_w10⟩
                    clear hel
                    have zw10 := fw10.size
                    have hD_w10 := fr_pb hD_M9 fw10 (by omega)
                    have hTM9_w10 := fr_pb hTM9 fw10 (by omega)
                    have hSM6_w10 := hSM6_M9.fr fw10 (fun k hk => by simp at hk; subst hk; exact .inl (by omega))
                    have hB8_w10 := hB8_M9.fr fw10 (fun k hk => by simp at hk; subst hk; exact .inl (by omega))
                    have hF_w10 := hF_M9.trans fw10
                    have hr : (andW (P X.ws n .block (k2 + 1)) fun e _ j3 => some (.ok [.mk 17 (bt []) 0 [y] [] bb e] false j3)) = some r := hr
                    go_wp2_with fail
                    cases hq : P X.ws n .block (k2 + 1) with
                    | none => rw [hq] at hr; cases hr
                    | some q =>
                      rw [hq] at hr
                      refine (HBL.out q (k2 + 1) hq _ (a_w10.fr0 frx)).mono ?_
                      clear hq
                      intro en w11 hp5
                      cases q with
                      | bad k2 =>
                        obtain ⟨rfl, hf5⟩ := hp5
                        have hr : some (Out.bad k2) = some r := hr
                        injection hr with hr
                        subst hr
                        go_wp2_with fail
                        exact ⟨rfl, rfl, (hF_w10).trans (Fr.trans frx hf5)⟩
                      | ok ee b2 k2 =>
                        obtain ⟨Aee, cee, nee, rfl, hee, hf5, a_w11⟩ := hp5
                        have hr : some (Out.ok [.mk 17 (bt []) 0 [y] [] bb ee] false k2) = some r := hr
                        have hfm : Fr [X.pb] w10 w11 := Fr.trans frx hf5
                        have hee : LN (Bel w10) nee w11 Aee cee ee := hee
                        clear hf5
                        have zw11 := hfm.size
                        have hD_w11 := fr_pb hD_w10 hfm (by omega)
                        have hTM9_w11 := fr_pb hTM9_w10 hfm (by omega)
                        have hSM6_w11 := hSM6_w10.fr hfm (fun k hk => by simp at hk; subst hk; exact .inl (by omega))
                        have hB8_w11 := hB8_w10.fr hfm (fun k hk => by simp at hk; subst hk; exact .inl (by omega))
                        have hF_w11 := hF_w10.trans hfm
                        have hE11 : LN (fun b => b ≤ w.heap.size ∨ b = w5.heap.size + 1) nee w11 Aee cee ee := hee.sub fun k _ hk => by
                          have hlt5 : k < w10.heap.size := by rcases hk with hk | hk <;> omega
                          exact hlt5
                        have x6 : w11.cell? ⟨w5.heap.size + 1, 6, none⟩ = some (.slice none 0 0) := hTM9_w11.cell 6 rfl
                        have y6 := hTM9_w11.frozen 6
                        go_upto_region 19 with fail
                        refine wp_hide (fun M12 hM12 => ?_)
                        have fM12 : Fr [w5.heap.size + 1] w11 M12 := by rw [hM12]; exact (Fr.refl _ _).setCell (.inl (by simp)) _
                        have hTM12 : Blk M12 (w5.heap.size + 1) 46 #[.int .u8 17, .string ⟨#[]⟩, .int .i64 0, .slice (some ⟨w5.heap.size, 0, none⟩) 1 1, .slice none 0 0, .slice Abb bb.length cbb, .slice Aee ee.length cee] := by rw [hM12]; simpa using hTM9_w11.set_ 6 (.slice Aee ee.length cee)
                        clear hM12
                        have zM12 := fM12.size
                        have hD_M12 := hD_w11.fr fM12 (by simp <;> omega)
                        have hSM6_M12 := hSM6_w11.fr fM12 (fun k hk => by simp at hk; subst hk; exact .inr rfl)
                        have hB8_M12 := hB8_w11.fr fM12 (fun k hk => by simp at hk; subst hk; exact .inr rfl)
                        have hE11_M12 := hE11.fr fM12 (fun k hk => by simp at hk; subst hk; exact .inr rfl)
                        have hF_M12 : Fr [X.pb] w M12 := hF_w11.trans2 fM12 (fun x hx => by simp at hx; subst hx; exact .inr (by omega))
                        have a_M12 := At.new hAt a_w11 fM12 (by simp <;> omega)
                        obtain ⟨NN, hNN⟩ : ∃ NN, NN = ny + 1 + nbb + nee := ⟨_, rfl⟩
                        injection hr with hr
                        subst hr
                        have c0 := hD_M12.cell 0 rfl
                        have c1 := hD_M12.cell 1 rfl
                        have c2 := hD_M12.cell 2 rfl
                        have c3 := hD_M12.cell 3 rfl
                        have c4 := hD_M12.cell 4 rfl
                        have c5 := hD_M12.cell 5 rfl
                        have c6 := hD_M12.cell 6 rfl
                        have cz0 := hD_M12.frozen 0
                        have cz1 := hD_M12.frozen 1
                        have cz2 := hD_M12.frozen 2
                        have cz3 := hD_M12.frozen 3
                        have cz4 := hD_M12.frozen 4
                        have cz5 := hD_M12.frozen 5
                        have cz6 := hD_M12.frozen 6
                        have d0 := hTM12.cell 0 rfl
                        have d1 := hTM12.cell 1 rfl
                        have d2 := hTM12.cell 2 rfl
                        have d3 := hTM12.cell 3 rfl
                        have d4 := hTM12.cell 4 rfl
                        have d5 := hTM12.cell 5 rfl
                        have d6 := hTM12.cell 6 rfl
                        have dz0 := hTM12.frozen 0
                        have dz1 := hTM12.frozen 1
                        have dz2 := hTM12.frozen 2
                        have dz3 := hTM12.frozen 3
                        have dz4 := hTM12.frozen 4
                        have dz5 := hTM12.frozen 5
                        have dz6 := hTM12.frozen 6
                        go_wp2_with fail
                        refine bodyPost_ret (results_node (x := (.mk 17 (bt []) 0 [y] [] bb ee)) (hd := ⟨some ⟨w5.heap.size, 0, none⟩, 1, none, 0, Abb, cbb, Aee, cee⟩) rfl _ _ w.heap.size rfl (hD_M12.node _ _ _ _ _ _ _)) rfl ?_
                        exact Nd1.fin hAt hF_M12 a_M12 hD_M12.lt ((NdH.mk_ (h := ⟨some ⟨w5.heap.size, 0, none⟩, 1, none, 0, Abb, cbb, Aee, cee⟩) (by omega) (by omega) (hSM6_M12.mono (m := NN) (by omega)) (RdS.nil0 _ _ _) (hB8_M12.mono (m := NN) (by omega)) (hE11_M12.mono (m := NN) (by omega))).sub fun k _ hk => .inl hk)
        | false =>
          rw [hk1, if_neg (by simp)] at hr
          go_wp2_with fail
          refine (has_no (a_wn0.fr0 frx) hk1).mono ?_
          rintro en wn1 ⟨rfl, fwn1, a_wn1⟩
          clear hk1
          have fwn1 : Fr [X.pb] wn0 wn1 := Fr.trans frx fwn1
          have zwn1 := fwn1.size
          have hD_wn1 := fr_pb hD_wn0 fwn1 (by omega)
          have hF_wn1 := hF_wn0.trans fwn1
          cases hk2 : isW X.ws i (bt [119, 104, 105, 108, 101]) with
          | true =>
            rw [hk2, if_pos rfl] at hr
            have hlt := isW_lt hk2
            go_wp2_with fail
            refine (has_ok (a_wn1.fr0 frx) hk2).mono ?_
            rintro en w2 ⟨rfl, fw2, a_w2⟩
            clear hk2
            have fw2 : Fr [X.pb] wn1 w2 := Fr.trans frx fw2
            have zw2 := fw2.size
            have hD_w2 := fr_pb hD_wn1 fw2 (by omega)
            have hF_w2 := hF_wn1.trans fw2
            go_wp2_with fail
            cases hq : P X.ws n .expr (i + 1) with
            | none => rw [hq] at hr; cases hr
            | some q =>
              rw [hq] at hr
              refine (HEX.out q (i + 1) hq _ (a_w2.fr0 frx)).mono ?_
              clear hq
              intro en w5 hp5
              cases q with
              | bad k2 =>
                obtain ⟨rfl, hf5⟩ := hp5
                have hr : some (Out.bad k2) = some r := hr
                injection hr with hr
                subst hr
                go_wp2_with fail
                exact ⟨rfl, rfl, (hF_w2).trans (Fr.trans frx hf5)⟩
              | ok l b2 k2 =>
                obtain ⟨hdy, ny, rfl, hy, hf5, a_w5⟩ := hp5
                have hr : (andW (P X.ws n .block k2) fun b _ j2 => some (.ok [.mk 18 (bt []) 0 [hd1 l] [] b []] false j2)) = some r := hr
                generalize hd1 l = y at *
                have hfm : Fr [X.pb] w2 w5 := Fr.trans frx hf5
                have hy : NdH (Bel w2) ny w5 hdy y := hy
                clear hf5
                have zw5 := hfm.size
                have hD_w5 := fr_pb hD_w2 hfm (by omega)
                have hF_w5 := hF_w2.trans hfm
                go_wp2_with fail
                refine calls_hide (fun M6 hM6 => ?_)
                have fM6 : Fr [] w5 M6 := by rw [hM6]; exact frx
                have hRM6 : Blk M6 w5.heap.size 46 (ndCells y hdy) := by rw [hM6]; exact (Blk.new _ _ _ _ rfl).alloc _
                have hTM6 : Blk M6 (w5.heap.size + 1) 46 #[.int .u8 18, .string ⟨#[]⟩, .int .i64 0, .slice (some ⟨w5.heap.size, 0, none⟩) 1 1, .slice none 0 0, .slice none 0 0, .slice none 0 0] := by rw [hM6]; exact Blk.new _ _ _ _ (by simp)
                have hTl := hTM6.lt
                clear hM6
                have zM6 := fM6.size
                have hD_M6 := hD_w5.fr fM6 (by simp)
                have hF_M6 := hF_w5.trans (fM6.mono (by simp))
                have a_M6 := a_w5.fr0 fM6
                have hSM6 : LN (fun b => b ≤ w.heap.size ∨ b = w5.heap.size + 1) (ny + 1) M6 (some ⟨w5.heap.size, 0, none⟩) 1 [y] := LN.one hRM6 (by show ¬ (_ ∨ _); omega) ((hy.sub fun k hk hS => by
                  have hlt5 : k < w2.heap.size := by rcases hS with hS | hS <;> omega
                  exact hlt5).fr0 fM6)
                cases hq : P X.ws n .block k2 with
                | none => rw [hq] at hr; cases hr
                | some q =>
                  rw [hq] at hr
                  refine (HBL.out q k2 hq _ (a_M6.fr0 frx)).mono ?_
                  clear hq
                  intro en w8 hp5
                  cases q with
                  | bad k2 =>
                    obtain ⟨rfl, hf5⟩ := hp5
                    have hr : some (Out.bad k2) = some r := hr
                    injection hr with hr
                    subst hr
                    go_wp2_with fail
                    exact ⟨rfl, rfl, (hF_M6).trans (Fr.trans frx hf5)⟩
                  | ok bb b2 k2 =>
                    obtain ⟨Abb, cbb, nbb, rfl, hbb, hf5, a_w8⟩ := hp5
                    have hr : some (Out.ok [.mk 18 (bt []) 0 [y] [] bb []] false k2) = some r := hr
                    have hfm : Fr [X.pb] M6 w8 := Fr.trans frx hf5
                    have hbb : LN (Bel M6) nbb w8 Abb cbb bb := hbb
                    clear hf5
                    have zw8 := hfm.size
                    have hD_w8 := fr_pb hD_M6 hfm (by omega)
                    have hTM6_w8 := fr_pb hTM6 hfm (by omega)
                    have hSM6_w8 := hSM6.fr hfm (fun k hk => by simp at hk; subst hk; exact .inl (by omega))
                    have hF_w8 := hF_M6.trans hfm
                    have hB8 : LN (fun b => b ≤ w.heap.size ∨ b = w5.heap.size + 1) nbb w8 Abb cbb bb := hbb.sub fun k _ hk => by
                      have hlt5 : k < M6.heap.size := by rcases hk with hk | hk <;> omega
                      exact hlt5
                    have x5 : w8.cell? ⟨w5.heap.size + 1, 5, none⟩ = some (.slice none 0 0) := hTM6_w8.cell 5 rfl
                    have y5 := hTM6_w8.frozen 5
                    go_upto_region 23 with fail
                    refine wp_hide (fun M9 hM9 => ?_)
                    have fM9 : Fr [w5.heap.size + 1] w8 M9 := by rw [hM9]; exact (Fr.refl _ _).setCell (.inl (by simp)) _
                    have hTM9 : Blk M9 (w5.heap.size + 1) 46 #[.int .u8 18, .string ⟨#[]⟩, .int .i64 0, .slice (some ⟨w5.heap.size, 0, none⟩) 1 1, .slice none 0 0, .slice Abb bb.length cbb, .slice none 0 0] := by rw [hM9]; simpa using hTM6_w8.set_ 5 (.slice Abb bb.length cbb)
                    clear hM9
                    have zM9 := fM9.size
                    have hD_M9 := hD_w8.fr fM9 (by simp <;> omega)
                    have hSM6_M9 := hSM6_w8.fr fM9 (fun k hk => by simp at hk; subst hk; exact .inr rfl)
                    have hB8_M9 := hB8.fr fM9 (fun k hk => by simp at hk; subst hk; exact .inr rfl)
                    have hF_M9 : Fr [X.pb] w M9 := hF_w8.trans2 fM9 (fun x hx => by simp at hx; subst hx; exact .inr (by omega))
                    have a_M9 := At.new hAt a_w8 fM9 (by simp <;> omega)
                    obtain ⟨NN, hNN⟩ : ∃ NN, NN = ny + 1 + nbb + 1 := ⟨_, rfl⟩
                    injection hr with hr
                    subst hr
                    have c0 := hD_M9.cell 0 rfl
                    have c1 := hD_M9.cell 1 rfl
                    have c2 := hD_M9.cell 2 rfl
                    have c3 := hD_M9.cell 3 rfl
                    have c4 := hD_M9.cell 4 rfl
                    have c5 := hD_M9.cell 5 rfl
                    have c6 := hD_M9.cell 6 rfl
                    have cz0 := hD_M9.frozen 0
                    have cz1 := hD_M9.frozen 1
                    have cz2 := hD_M9.frozen 2
                    have cz3 := hD_M9.frozen 3
                    have cz4 := hD_M9.frozen 4
                    have cz5 := hD_M9.frozen 5
                    have cz6 := hD_M9.frozen 6
                    have d0 := hTM9.cell 0 rfl
                    have d1 := hTM9.cell 1 rfl
                    have d2 := hTM9.cell 2 rfl
                    have d3 := hTM9.cell 3 rfl
                    have d4 := hTM9.cell 4 rfl
                    have d5 := hTM9.cell 5 rfl
                    have d6 := hTM9.cell 6 rfl
                    have dz0 := hTM9.frozen 0
                    have dz1 := hTM9.frozen 1
                    have dz2 := hTM9.frozen 2
                    have dz3 := hTM9.frozen 3
                    have dz4 := hTM9.frozen 4
                    have dz5 := hTM9.frozen 5
                    have dz6 := hTM9.frozen 6
                    go_wp2_with fail
                    refine bodyPost_ret (results_node (x := (.mk 18 (bt []) 0 [y] [] bb [])) (hd := ⟨some ⟨w5.heap.size, 0, none⟩, 1, none, 0, Abb, cbb, none, 0⟩) rfl _ _ w.heap.size rfl (hD_M9.node _ _ _ _ _ _ _)) rfl ?_
                    exact Nd1.fin hAt hF_M9 a_M9 hD_M9.lt ((NdH.mk_ (h := ⟨some ⟨w5.heap.size, 0, none⟩, 1, none, 0, Abb, cbb, none, 0⟩) (by omega) (by omega) (hSM6_M9.mono (m := NN) (by omega)) (RdS.nil0 _ _ _) (hB8_M9.mono (m := NN) (by omega)) ((LN.nil0 _ 0 _ _).mono (by omega))).sub fun k _ hk => .inl hk)
          | false =>
            rw [hk2, if_neg (by simp)] at hr
            go_wp2_with fail
            refine (has_no (a_wn1.fr0 frx) hk2).mono ?_
            rintro en wn2 ⟨rfl, fwn2, a_wn2⟩
            clear hk2
            have fwn2 : Fr [X.pb] wn1 wn2 := Fr.trans frx fwn2
            have zwn2 := fwn2.size
            have hD_wn2 := fr_pb hD_wn1 fwn2 (by omega)
            have hF_wn2 := hF_wn1.trans fwn2
            cases hk3 : isW X.ws i (bt [116, 114, 121]) with
            | true =>
              rw [hk3, if_pos rfl] at hr
              have hlt := isW_lt hk3
              go_wp2_with fail
              refine (has_ok (a_wn2.fr0 frx) hk3).mono ?_
              rintro en w2 ⟨rfl, fw2, a_w2⟩
              clear hk3
              have fw2 : Fr [X.pb] wn2 w2 := Fr.trans frx fw2
              have zw2 := fw2.size
              have hD_w2 := fr_pb hD_wn2 fw2 (by omega)
              have hF_w2 := hF_wn2.trans fw2
              go_wp2_with fail
              cases hq : P X.ws n .block (i + 1) with
              | none => rw [hq] at hr; cases hr
              | some q =>
                rw [hq] at hr
                refine (HBL.out q (i + 1) hq _ (a_w2.fr0 frx)).mono ?_
                clear hq
                intro en w5 hp5
                cases q with
                | bad k2 =>
                  obtain ⟨rfl, hf5⟩ := hp5
                  have hr : some (Out.bad k2) = some r := hr
                  injection hr with hr
                  subst hr
                  go_wp2_with fail
                  exact ⟨rfl, rfl, (hF_w2).trans (Fr.trans frx hf5)⟩
                | ok bb b2 k2 =>
                  obtain ⟨Abb, cbb, nbb, rfl, hbb, hf5, a_w5⟩ := hp5
                  have hr : (if isW X.ws k2 (bt [99, 97, 116, 99, 104]) then (match nameW X.ws (k2 + 1) with | none => some (.bad (k2 + 1)) | some t => andW (P X.ws n .block (k2 + 2)) fun e _ j2 => some (.ok [.mk 21 t 0 [] [] bb e] false j2)) else some (.bad k2)) = some r := hr
                  have hfm : Fr [X.pb] w2 w5 := Fr.trans frx hf5
                  have hbb : LN (Bel w2) nbb w5 Abb cbb bb := hbb
                  clear hf5
                  have zw5 := hfm.size
                  have hD_w5 := fr_pb hD_w2 hfm (by omega)
                  have hF_w5 := hF_w2.trans hfm
                  go_wp2_with fail
                  refine calls_hide (fun M6 hM6 => ?_)
                  have fM6 : Fr [] w5 M6 := by rw [hM6]; exact frx
                  have hTM6 : Blk M6 (w5.heap.size) 46 #[.int .u8 21, .string ⟨#[]⟩, .int .i64 0, .slice none 0 0, .slice none 0 0, .slice Abb bb.length cbb, .slice none 0 0] := by rw [hM6]; exact Blk.new _ _ _ _ rfl
                  have hTl := hTM6.lt
                  clear hM6
                  have hB6 : LN (fun b => b ≤ w.heap.size ∨ b = w5.heap.size) nbb w5 Abb cbb bb := hbb.sub fun k _ hk => by
                    have hlt5 : k < w2.heap.size := by rcases hk with hk | hk <;> omega
                    exact hlt5
                  have zM6 := fM6.size
                  have hD_M6 := hD_w5.fr fM6 (by simp)
                  have hB6_M6 := hB6.fr0 fM6
                  have hF_M6 := hF_w5.trans (fM6.mono (by simp))
                  have a_M6 := a_w5.fr0 fM6
                  cases htk : isW X.ws k2 (bt [99, 97, 116, 99, 104]) with
                  | false =>
                    rw [htk, if_neg (by simp)] at hr
                    injection hr with hr
                    subst hr
                    refine (take_bad a_M6 htk).mono ?_
                    rintro en w9 ⟨rfl, hf9⟩
                    clear htk
                    go_wp2_with fail
                    exact ⟨rfl, rfl, (hF_M6).trans hf9⟩
                  | true =>
                    rw [htk, if_pos rfl] at hr
                    refine (take_ok a_M6 htk).mono ?_
                    rintro en w8 ⟨rfl, fw8, a_w8⟩
                    clear htk
                    have zw8 := fw8.size
                    have hD_w8 := fr_pb hD_M6 fw8 (by omega)
                    have hTM6_w8 := fr_pb hTM6 fw8 (by omega)
                    have hB6_w8 := hB6_M6.fr fw8 (fun k hk => by simp at hk; subst hk; exact .inl (by omega))
                    have hF_w8 := hF_M6.trans fw8
                    go_wp2_with fail
                    cases hnm : nameW X.ws (k2 + 1) with
                    | none =>
                      rw [hnm] at hr
                      injection hr with hr
                      subst hr
                      refine (name_bad (a_w8.fr0 frx) hnm).mono ?_
                      rintro en w9 ⟨rfl, hf9⟩
                      clear hnm
                      go_wp2_with fail
                      exact ⟨rfl, rfl, (hF_w8).trans (Fr.trans frx hf9)⟩
                    | some t =>
                      rw [hnm] at hr
                      simp only at hr
                      refine (name_ok (a_w8.fr0 frx) hnm).mono ?_
                      rintro en w9 ⟨rfl, fw9, a_w9⟩
                      clear hnm
                      have fw9 : Fr [X.pb] w8 w9 := Fr.trans frx fw9
                      have zw9 := fw9.size
                      have hD_w9 := fr_pb hD_w8 fw9 (by omega)
                      have hTM6_w9 := fr_pb hTM6_w8 fw9 (by omega)
                      have hB6_w9 := hB6_w8.fr fw9 (fun k hk => by simp at hk; subst hk; exact .inl (by omega))
                      have hF_w9 := hF_w8.trans fw9
                      have x1 : w9.cell? ⟨w5.heap.size, 1, none⟩ = some (.string ⟨#[]⟩) := hTM6_w9.cell 1 rfl
                      have y1 := hTM6_w9.frozen 1
                      go_wp2_with fail
                      refine calls_hide (fun M10 hM10 => ?_)
                      have fM10 : Fr [w5.heap.size] w9 M10 := by rw [hM10]; exact (Fr.refl _ _).setCell (.inl (by simp)) _
                      have hTM10 : Blk M10 (w5.heap.size) 46 #[.int .u8 21, .string t, .int .i64 0, .slice none 0 0, .slice none 0 0, .slice Abb bb.length cbb, .slice none 0 0] := by rw [hM10]; simpa using hTM6_w9.set_ 1 (.string t)
                      clear hM10
                      have zM10 := fM10.size
                      have hD_M10 := hD_w9.fr fM10 (by simp <;> omega)
                      have hB6_M10 := hB6_w9.fr fM10 (fun k hk => by simp at hk; subst hk; exact .inr rfl)
                      have hF_M10 : Fr [X.pb] w M10 := hF_w9.trans2 fM10 (fun x hx => by simp at hx; subst hx; exact .inr (by omega))
                      have a_M10 := At.new hAt a_w9 fM10 (by simp <;> omega)
                      have hr : (andW (P X.ws n .block (k2 + 2)) fun e _ j2 => some (.ok [.mk 21 t 0 [] [] bb e] false j2)) = some r := hr
                      cases hq : P X.ws n .block (k2 + 2) with
                      | none => rw [hq] at hr; cases hr
                      | some q =>
                        rw [hq] at hr
                        refine (HBL.out q (k2 + 2) hq _ (a_M10.fr0 frx)).mono ?_
                        clear hq
                        intro en w11 hp5
                        cases q with
                        | bad k2 =>
                          obtain ⟨rfl, hf5⟩ := hp5
                          have hr : some (Out.bad k2) = some r := hr
                          injection hr with hr
                          subst hr
                          go_wp2_with fail
                          exact ⟨rfl, rfl, (hF_M10).trans (Fr.trans frx hf5)⟩
                        | ok ee b2 k2 =>
                          obtain ⟨Aee, cee, nee, rfl, hee, hf5, a_w11⟩ := hp5
                          have hr : some (Out.ok [.mk 21 t 0 [] [] bb ee] false k2) = some r := hr
                          have hfm : Fr [X.pb] M10 w11 := Fr.trans frx hf5
                          have hee : LN (Bel M10) nee w11 Aee cee ee := hee
                          clear hf5
                          have zw11 := hfm.size
                          have hD_w11 := fr_pb hD_M10 hfm (by omega)
                          have hTM10_w11 := fr_pb hTM10 hfm (by omega)
                          have hB6_w11 := hB6_M10.fr hfm (fun k hk => by simp at hk; subst hk; exact .inl (by omega))
                          have hF_w11 := hF_M10.trans hfm
                          have hE11 : LN (fun b => b ≤ w.heap.size ∨ b = w5.heap.size) nee w11 Aee cee ee := hee.sub fun k _ hk => by
                            have hlt5 : k < M10.heap.size := by rcases hk with hk | hk <;> omega
                            exact hlt5
                          have x6 : w11.cell? ⟨w5.heap.size, 6, none⟩ = some (.slice none 0 0) := hTM10_w11.cell 6 rfl
                          have y6 := hTM10_w11.frozen 6
                          go_upto_region 29 with fail
                          refine wp_hide (fun M12 hM12 => ?_)
                          have fM12 : Fr [w5.heap.size] w11 M12 := by rw [hM12]; exact (Fr.refl _ _).setCell (.inl (by simp)) _
                          have hTM12 : Blk M12 (w5.heap.size) 46 #[.int .u8 21, .string t, .int .i64 0, .slice none 0 0, .slice none 0 0, .slice Abb bb.length cbb, .slice Aee ee.length cee] := by rw [hM12]; simpa using hTM10_w11.set_ 6 (.slice Aee ee.length cee)
                          clear hM12
                          have zM12 := fM12.size
                          have hD_M12 := hD_w11.fr fM12 (by simp <;> omega)
                          have hB6_M12 := hB6_w11.fr fM12 (fun k hk => by simp at hk; subst hk; exact .inr rfl)
                          have hE11_M12 := hE11.fr fM12 (fun k hk => by simp at hk; subst hk; exact .inr rfl)
                          have hF_M12 : Fr [X.pb] w M12 := hF_w11.trans2 fM12 (fun x hx => by simp at hx; subst hx; exact .inr (by omega))
                          have a_M12 := At.new hAt a_w11 fM12 (by simp <;> omega)
                          obtain ⟨NN, hNN⟩ : ∃ NN, NN = nbb + nee + 1 := ⟨_, rfl⟩
                          injection hr with hr
                          subst hr
                          have c0 := hD_M12.cell 0 rfl
                          have c1 := hD_M12.cell 1 rfl
                          have c2 := hD_M12.cell 2 rfl
                          have c3 := hD_M12.cell 3 rfl
                          have c4 := hD_M12.cell 4 rfl
                          have c5 := hD_M12.cell 5 rfl
                          have c6 := hD_M12.cell 6 rfl
                          have cz0 := hD_M12.frozen 0
                          have cz1 := hD_M12.frozen 1
                          have cz2 := hD_M12.frozen 2
                          have cz3 := hD_M12.frozen 3
                          have cz4 := hD_M12.frozen 4
                          have cz5 := hD_M12.frozen 5
                          have cz6 := hD_M12.frozen 6
                          have d0 := hTM12.cell 0 rfl
                          have d1 := hTM12.cell 1 rfl
                          have d2 := hTM12.cell 2 rfl
                          have d3 := hTM12.cell 3 rfl
                          have d4 := hTM12.cell 4 rfl
                          have d5 := hTM12.cell 5 rfl
                          have d6 := hTM12.cell 6 rfl
                          have dz0 := hTM12.frozen 0
                          have dz1 := hTM12.frozen 1
                          have dz2 := hTM12.frozen 2
                          have dz3 := hTM12.frozen 3
                          have dz4 := hTM12.frozen 4
                          have dz5 := hTM12.frozen 5
                          have dz6 := hTM12.frozen 6
                          go_wp2_with fail
                          refine bodyPost_ret (results_node (x := (.mk 21 t 0 [] [] bb ee)) (hd := ⟨none, 0, none, 0, Abb, cbb, Aee, cee⟩) rfl _ _ w.heap.size rfl (hD_M12.node _ _ _ _ _ _ _)) rfl ?_
                          exact Nd1.fin hAt hF_M12 a_M12 hD_M12.lt ((NdH.mk_ (h := ⟨none, 0, none, 0, Abb, cbb, Aee, cee⟩) (by omega) (by omega) ((LN.nil0 _ 0 _ _).mono (by omega)) (RdS.nil0 _ _ _) (hB6_M12.mono (m := NN) (by omega)) (hE11_M12.mono (m := NN) (by omega))).sub fun k _ hk => .inl hk)
            | false =>
              rw [hk3, if_neg (by simp)] at hr
              go_wp2_with fail
              refine (has_no (a_wn2.fr0 frx) hk3).mono ?_
              rintro en wn3 ⟨rfl, fwn3, a_wn3⟩
              clear hk3
              have fwn3 : Fr [X.pb] wn2 wn3 := Fr.trans frx fwn3
              have zwn3 := fwn3.size
              have hD_wn3 := fr_pb hD_wn2 fwn3 (by omega)
              have hF_wn3 := hF_wn2.trans fwn3
              go_wp2_with fail
              refine (HOT.out r hr _ (a_wn3.fr0 frx)).mono ?_
              intro en w5 hp5
              cases r with
              | bad k2 =>
                obtain ⟨rfl, hf5⟩ := hp5
                go_wp2_with fail
                exact ⟨rfl, rfl, (hF_wn3).trans (Fr.trans frx hf5)⟩
              | ok l b k2 =>
                obtain ⟨hd, nn, rfl, hx, hf5, a5⟩ := hp5
                obtain ⟨x, hx0⟩ : ∃ x, x = hd1 l := ⟨_, rfl⟩
                rw [← hx0] at hx ⊢
                have HX0 := Lib.hid hx0
                clear hx0 hr
                have hf5 : Fr [X.pb] wn3 w5 := Fr.trans frx hf5
                have hD5 := fr_pb hD_wn3 hf5 (by omega)
                have hF5 := (hF_wn3).trans hf5
                have hz5 := hf5.size
                have c0 := hD5.cell 0 rfl
                have c1 := hD5.cell 1 rfl
                have c2 := hD5.cell 2 rfl
                have c3 := hD5.cell 3 rfl
                have c4 := hD5.cell 4 rfl
                have c5 := hD5.cell 5 rfl
                have c6 := hD5.cell 6 rfl
                have cz0 := hD5.frozen 0
                have cz1 := hD5.frozen 1
                have cz2 := hD5.frozen 2
                have cz3 := hD5.frozen 3
                have cz4 := hD5.frozen 4
                have cz5 := hD5.frozen 5
                have cz6 := hD5.frozen 6
                go_wp2_with fail
                refine bodyPost_ret (results_node rfl _ _ w.heap.size rfl (hD5.node _ _ _ _ _ _ _)) rfl ?_
                have hfin := Nd1.fin hAt hF5 a5 hD5.lt (hx.sub (S' := fun b => b ≤ w.heap.size) fun k _ hk => by
                  have hlt5 : k < wn3.heap.size := by omega
                  exact hlt5)
                have hx0 := HX0.out
                subst hx0
                exact hfin
end
end

/- The parser's functions answer as the pure parser says: by induction on the fuel. -/
section
open Go.RowKit
set_option linter.unusedSimpArgs false
section
variable {X : Px}
def Px.Does (X : Px) (i : Nat) (r : Out) : Job → Prop
 | .block => ∀ w, X.At w i → Calls Tryz.prog 188 #[X.p] w (X.RL w r)
 | .stmt => ∀ w, X.At w i → Calls Tryz.prog 214 #[X.p] w (X.R1 w r)
 | .other => ∀ w, X.At w i → Calls Tryz.prog 230 #[X.p] w (X.R1 w r)
 | .expr => ∀ w, X.At w i → Calls Tryz.prog 228 #[X.p] w (X.R1 w r)
 | .bin lv => lv ≤ 5 → ∀ w, X.At w i → Calls Tryz.prog 244 #[X.p, .int .i64 lv] w (X.R2 w r)
 | .unary => ∀ w, X.At w i → Calls Tryz.prog 254 #[X.p] w (X.R2 w r)
 | .args => ∀ w, X.At w i → Calls Tryz.prog 259 #[X.p] w (X.RL w r)
 | .pfx => ∀ w, X.At w i → Calls Tryz.prog 257 #[X.p] w (X.R2 w r)
 | .called k => (0 ≤ k ∧ k ≤ 255) → ∀ w, X.At w i → Calls Tryz.prog 260 #[X.p, .int .u8 k] w (X.R1 w r)
 | .unit => ∀ w, X.At w i → Calls Tryz.prog 261 #[X.p] w (X.R1 w r)
 | .atom => ∀ w, X.At w i → Calls Tryz.prog 258 #[X.p] w (X.R1 w r)
 | _ => True
theorem andW_one {o : Option Out} {r : Out} (h : andW o (fun l _ j => some (.ok l false j)) = some r) : ∃ q, o = some q ∧ (∀ w en w', X.R1 w q en w' → X.R1 w r en w') := by
  cases o with
  | none => cases h
  | some q =>
    refine ⟨q, rfl, fun w en w' hq => ?_⟩
    cases q with
    | bad k =>
      have h : some (Out.bad k) = some r := h
      injection h with h
      subst h
      exact hq
    | ok l b k =>
      have h : some (Out.ok l false k) = some r := h
      injection h with h
      subst h
      exact hq
theorem does_all (hnum : NumOk X.ws) : ∀ (n m : Nat), m ≤ n → ∀ (job : Job) (i : Nat) (r : Out), P X.ws m job i = some r → X.Does i r job := by
  intro n
  induction n with
  | zero =>
    intro m hm job i r hr
    obtain rfl : m = 0 := by omega
    simp [P] at hr
  | succ n ih =>
    intro m hm job i r hr
    cases m with
    | zero => simp [P] at hr
    | succ m =>
      have hmn : m ≤ n := by omega
      cases job with
      | block => exact fun w h => block_step w h hr fun m' q k hk hq w' hw' => ih m' (by omega) .stmt k q hq w' hw'
      | blockL acc => exact trivial
      | stmt => exact fun w h => statement_step w h hr (fun q k hq w' hw' => ih m hmn .expr k q hq w' hw') (fun q k hq w' hw' => ih m hmn .block k q hq w' hw') (fun q hq w' hw' => ih m hmn .other i q hq w' hw')
      | other => exact fun w h => other_step w h hr (fun q hq w' hw' => ih m hmn (.bin 0) i q hq (by omega) w' hw') (fun q k hq w' hw' => ih m hmn .expr k q hq w' hw')
      | expr =>
        intro w h
        rw [P] at hr
        obtain ⟨q, hq, himp⟩ := andW_one (X := X) hr
        exact (expr_step w h fun w' hw' => ih m hmn (.bin 0) i q hq (by omega) w' hw').mono fun en w' => himp w en w'
      | bin lv =>
        intro hlv w h
        rcases Nat.lt_or_ge lv 5 with h5 | h5
        · exact binary_step lv h5 w h hr fun m' q k hk hq w' hw' => ih m' (by omega) (.bin (lv + 1)) k q hq (by omega) w' hw'
        · obtain rfl : lv = 5 := by omega
          rw [P, if_pos rfl] at hr
          exact binary5_step w h fun w' hw' => ih m hmn .unary i r hr w' hw'
      | binL lv x b => exact trivial
      | unary => exact fun w h => unary_step w h hr (fun q k hq w' hw' => ih m hmn .unary k q hq w' hw') (fun q hq w' hw' => ih m hmn .pfx i q hq w' hw')
      | args => exact fun w h => args_step w h hr fun m' q k hk hq w' hw' => ih m' (by omega) .expr k q hq w' hw'
      | argsL acc => exact trivial
      | pfx => exact fun w h => postfix_step w h hr (fun q hq w' hw' => ih m hmn .atom i q hq w' hw') (fun m' q k hk hq w' hw' => ih m' (by omega) .expr k q hq w' hw') (fun m' q k hk hq w' hw' => ih m' (by omega) .args k q hq w' hw')
      | postL x b => exact trivial
      | called k =>
        intro hk w h
        rw [P] at hr
        exact called_step k hk w h hr fun q hq _ w' hw' => ih m hmn .args (i + 2) q hq w' hw'
      | unit =>
        intro w h
        rw [P] at hr
        exact unit_step w h hr fun q hq _ w' hw' => ih m hmn .expr (i + 1) q hq w' hw'
      | atom => exact fun w h => atom_step hnum w h hr (fun kk q k hk hq w' hw' => ih m hmn (.called kk) k q hq hk w' hw') (fun q k hq w' hw' => ih m hmn .unit k q hq w' hw') (fun q k hq w' hw' => ih m hmn .block k q hq w' hw')
theorem does (hnum : NumOk X.ws) {n : Nat} {job : Job} {i : Nat} {r : Out} (h : P X.ws n job i = some r) : X.Does i r job := does_all hnum n n (Nat.le_refl _) job i r h
end
end

/- Functions of a program in the making; the program that words are (printed by gen/ndf.py). -/
section
open Go.RowKit
set_option linter.unusedSimpArgs false
theorem elemFu : Elem Tryz.prog 23 81 (.agg #[.string ⟨#[]⟩, .slice none 0 0, .slice none 0 0]) 3 64 := ⟨Tryz.underlying23, by kernel_rfl, rfl, by omega, by omega⟩
structure HdF where
 Ap : Option Addr
 cp : Nat
 Ab : Option Addr
 cb : Nat
abbrev fuL (f : Fu) (h : HdF) : List Value := [.string f.name, .slice h.Ap f.params.length h.cp, .slice h.Ab f.body.length h.cb]
abbrev fuCells (f : Fu) (h : HdF) : Array Value := #[.string f.name, .slice h.Ap f.params.length h.cp, .slice h.Ab f.body.length h.cb]
structure FuH (S : Nat → Prop) (n : Nat) (w : World) (h : HdF) (f : Fu) : Prop where
 params : RdS S w .string h.Ap h.cp f.params
 body : LN S n w h.Ab h.cb f.body
section
variable {S S' : Nat → Prop} {w w' : World} {n m : Nat} {f : Fu} {h : HdF}
theorem FuH.imp (hx : FuH S n w h f) (hl : n ≤ m) (hS : ∀ k, k < w.heap.size → ¬ S k → ¬ S' k) (hc : ∀ p u, ¬ S p.block → w.cell? p = some u → w'.cell? p = some u) : FuH S' m w' h f := ⟨hx.params.imp hS hc, LN.imp hS hc hl hx.body⟩
theorem FuH.mono (hx : FuH S n w h f) (hl : n ≤ m) : FuH S m w h f := hx.imp hl (fun _ _ h => h) (fun _ _ _ h => h)
theorem FuH.fr {Z : List Nat} (hx : FuH S n w h f) (hf : Fr Z w w') (hS : ∀ k ∈ Z, S k) : FuH S n w' h f := hx.imp (Nat.le_refl _) (fun _ _ h => h) (fun p u hp h1 => hf.cell h1 fun hm => hp (hS _ hm))
theorem FuH.fr0 (hx : FuH S n w h f) (hf : Fr [] w w') : FuH S n w' h f := hx.fr hf (by simp)
theorem FuH.sub (hx : FuH S n w h f) (hS : ∀ k, k < w.heap.size → S' k → S k) : FuH S' n w h f := hx.imp (Nat.le_refl _) (fun k hk h hm => h (hS k hk hm)) (fun _ _ _ h => h)
end
def flatU (l : List Fu) (hs : List HdF) : List Value := (l.zip hs).flatMap fun p => fuL p.1 p.2
theorem flatU_cons (x : Fu) (l : List Fu) (h : HdF) (hs : List HdF) : flatU (x :: l) (h :: hs) = fuL x h ++ flatU l hs := rfl
theorem fuL_len (x : Fu) (h : HdF) : (fuL x h).length = 3 := rfl
theorem flatU_len : ∀ (l : List Fu) (hs : List HdF), hs.length = l.length → (flatU l hs).length = l.length * 3
  | [], hs, _ => by simp [flatU]
  | x :: l, [], e => by simp at e
  | x :: l, h :: hs, e => by
    rw [flatU_cons, List.length_append, fuL_len, flatU_len l hs (by simpa using e), List.length_cons]
    omega
theorem flatU_app (l : List Fu) (hs : List HdF) (x : Fu) (h : HdF) (e : hs.length = l.length) : flatU (l ++ [x]) (hs ++ [h]) = flatU l hs ++ fuL x h := by
 unfold flatU
 rw [List.zip_append e.symm, List.flatMap_append]
 rfl
theorem flatU_at : ∀ (l : List Fu) (hs : List HdF) (k j : Nat) (x : Fu) (h : HdF), l[k]? = some x → hs[k]? = some h → j < 3 → (flatU l hs)[k * 3 + j]? = (fuL x h)[j]?
  | [], _, k, j, x, h, e1, _, _ => by simp at e1
  | y :: l, [], k, j, x, h, _, e2, _ => by simp at e2
  | y :: l, g :: hs, 0, j, x, h, e1, e2, hj => by
    rw [List.getElem?_cons_zero] at e1 e2
    injection e1 with e1
    injection e2 with e2
    subst e1 e2
    rw [flatU_cons, List.getElem?_append_left (by rw [fuL_len]; omega), Nat.zero_mul, Nat.zero_add]
  | y :: l, g :: hs, k + 1, j, x, h, e1, e2, hj => by
    have := flatU_at l hs k j x h (by simpa using e1) (by simpa using e2) hj
    rw [flatU_cons, List.getElem?_append_right (by rw [fuL_len]; omega), ← this, fuL_len]
    congr 1
    omega
theorem fuL_one (x : Fu) (h : HdF) : ∀ u ∈ fuL x h, u.oneCell' = true := by
 intro u hu
 simp at hu
 rcases hu with rfl | rfl | rfl <;> rfl
structure GFu (S : Nat → Prop) (n base : Nat) (w : World) (A : Option Addr) (c : Nat) (acc : List Fu) (hs : List HdF) : Prop where
 len : hs.length = acc.length
 own : w.ownsRow base 81 3 (.slice A acc.length c) acc.length (flatU acc hs)
 at_ : ∀ (k : Nat) (x : Fu) (h : HdF), acc[k]? = some x → hs[k]? = some h → FuH (fun b => S b ∨ RowB A b) n w h x
section
variable {S S' : Nat → Prop} {n m base : Nat} {w w' : World} {A : Option Addr} {c : Nat} {acc : List Fu} {hs : List HdF} {x : Fu} {h : HdF}
theorem GFu.nil (S : Nat → Prop) (n base : Nat) (w : World) : GFu S n base w none 0 [] [] := ⟨rfl, World.ownsRow_nil _ _ _ _, fun k x h e => by simp at e⟩
theorem GFu.mono (g : GFu S n base w A c acc hs) (hl : n ≤ m) : GFu S m base w A c acc hs := ⟨g.len, g.own, fun k x h e1 e2 => (g.at_ k x h e1 e2).mono hl⟩
theorem GFu.fr {Z : List Nat} (g : GFu S n base w A c acc hs) (hf : Fr Z w w') (hS : ∀ k ∈ Z, S k) (hZ : ∀ k ∈ Z, ¬ RowB A k) : GFu S n base w' A c acc hs :=
 ⟨g.len, own_fr g.own hf fun k hk hm => hZ k hm (by
  cases A with
  | none => simp [Value.ownBlock] at hk
  | some a => simp [Value.ownBlock] at hk; exact ⟨a, rfl, hk⟩), fun k x h e1 e2 => (g.at_ k x h e1 e2).fr hf (fun k hk => .inl (hS k hk))⟩
theorem GFu.sub (g : GFu S n base w A c acc hs) (hS : ∀ k, k < w.heap.size → S' k → S k) : GFu S' n base w A c acc hs :=
 ⟨g.len, g.own, fun k x h e1 e2 => (g.at_ k x h e1 e2).sub fun k hk h => h.elim (fun h => .inl (hS k hk h)) .inr⟩
theorem GFu.fr0 (g : GFu S n base w A c acc hs) (hf : Fr [] w w') : GFu S n base w' A c acc hs := g.fr hf (by simp) (by simp)
theorem GFu.rf (g : GFu S n base w A c acc hs) (hS : ∀ k, base ≤ k → ¬ S k) : RF S n w A c acc := by
 have hle : acc.length ≤ c ∧ c ≤ maxLen := by
  rcases g.own.2 with ⟨he, hz⟩ | ⟨gb, cap, cur, he, _, _, hnc, hcm, _⟩
  ·injection he with e1 e2 e3
   subst e3
   exact ⟨by omega, by unfold maxLen; omega⟩
  ·injection he with e1 e2 e3
   subst e3
   exact ⟨hnc, hcm⟩
 refine ⟨hle.1, hle.2, fun h0 => ?_⟩
 obtain ⟨gb, rfl, hb1, hb2⟩ := own_some g.own h0
 have hc := Cells.of_own g.own
 obtain ⟨b, off, hA, hcell⟩ := hc (by rw [flatU_len _ _ g.len]; omega)
 injection hA with hA
 injection hA with e1 e2
 subst e1 e2
 refine ⟨gb, 0, rfl, hS gb hb1, fun k y hk => ?_⟩
 have hkl : k < hs.length := by
  rw [g.len]
  exact (List.getElem?_eq_some_iff.1 hk).1
 have hh := List.getElem?_eq_getElem hkl
 have hx := (g.at_ k y _ hk hh).sub (S' := S) fun k _ h => .inl h
 have hj : ∀ j, j < 3 → ∀ u, (fuL y hs[k])[j]? = some u → w.cell? ⟨gb, 0 + (k * 3 + j), none⟩ = some u := fun j hj u hu => hcell (k * 3 + j) u (by rw [flatU_at _ _ k j y _ hk hh hj]; exact hu)
 refine ⟨_, _, _, _, ?_, ?_, ?_, hx.params, hx.body⟩
 ·simpa using hj 0 (by omega) _ rfl
 ·have := hj 1 (by omega) _ rfl; rw [← Nat.add_assoc] at this; exact this
 ·have := hj 2 (by omega) _ rfl; rw [← Nat.add_assoc] at this; exact this
theorem GFu.app {b0 : Nat} (g : GFu S n base w A c acc hs) (hx : FuH (fun b => b < b0) n w h x) (hb0 : ∀ k, RowB A k → k < b0) (hSb : ∀ k, S k → k < b0) (hbw : b0 ≤ w.heap.size) {A' : Option Addr} {c' : Nat} (hg : w.grownBy w' (Value.slice A acc.length c).ownBlock)
    (ho : w'.ownsRow base 81 3 (.slice A' (acc.length + 1) c') (acc.length + 1) (flatU acc hs ++ fuL x h))
    (hat : (Value.slice A' (acc.length + 1) c').ownBlock = (Value.slice A acc.length c).ownBlock ∨ (Value.slice A' (acc.length + 1) c').ownBlock = some w.heap.size) : GFu S n base w' A' c' (acc ++ [x]) (hs ++ [h]) := by
  have hR : ∀ k, k < w.heap.size → ¬ RowB A k → ¬ RowB A' k := by
    intro k hk h1 ⟨a, ha, hab⟩
    subst ha hab
    rcases hat with h2 | h2
    · cases A with
      | none => simp [Value.ownBlock] at h2
      | some a' =>
        simp [Value.ownBlock] at h2
        exact h1 ⟨a', rfl, h2.symm⟩
    · simp [Value.ownBlock] at h2
      omega
  have hcell : ∀ (p : Addr) (u : Value), ¬ RowB A p.block → w.cell? p = some u → w'.cell? p = some u := by
    intro p u hp hc
    refine (World.cell?_of_block (hg.block p.block (World.block_lt_of_cell? w p hc) fun e => ?_)).trans hc
    cases A with
    | none => simp [Value.ownBlock] at e
    | some a' => simp [Value.ownBlock] at e; exact hp ⟨a', rfl, e.symm⟩
  have hk : ∀ y hd, FuH (fun b => S b ∨ RowB A b) n w hd y → FuH (fun b => S b ∨ RowB A' b) n w' hd y := fun y hd hy =>
    hy.imp (Nat.le_refl _) (fun k hk h1 h2 => h2.elim (fun h3 => h1 (.inl h3)) (fun h3 => hR k hk (fun h4 => h1 (.inr h4)) h3)) (fun p u hp hc => hcell p u (fun h3 => hp (.inr h3)) hc)
  refine ⟨by simp [g.len], ?_, fun k y hd e1 e2 => ?_⟩
  · rw [flatU_app _ _ _ _ g.len, List.length_append]
    exact ho
  · rcases Nat.lt_or_ge k acc.length with h1 | h1
    · rw [List.getElem?_append_left h1] at e1
      rw [List.getElem?_append_left (by rw [g.len]; exact h1)] at e2
      exact hk _ _ (g.at_ k y hd e1 e2)
    · rw [List.getElem?_append_right h1] at e1
      rw [List.getElem?_append_right (by rw [g.len]; exact h1), g.len] at e2
      have hz : k - acc.length = 0 := by
        have := (List.getElem?_eq_some_iff.1 e1).1
        simp at this
        omega
      rw [hz] at e1 e2
      simp at e1 e2
      subst e1 e2
      exact hk _ _ (hx.sub fun k _ h1 => h1.elim (hSb k) (hb0 k))
end
def progN (ws : List Wd) : Nat → List Fu → Nat → Option (List Fu ⊕ Nat)
  | 0, _, _ => none
  | n + 1, acc, i => if i < ws.length then (if isW ws i (bt [102, 117, 110]) then (match nameW ws (i + 1) with
      | none => some (.inr (i + 1))
      | some t => match namesW ws (i + 2) with
        | .inr j => some (.inr j)
        | .inl (ps, j) => match P ws (20 * ws.length + 40) .block j with
          | none => none
          | some (.bad k) => some (.inr k)
          | some (.ok b _ k) => progN ws n (acc ++ [⟨t, ps, b⟩]) k) else some (.inr i)) else some (.inl acc)
def progW (ws : List Wd) : Option (List Fu ⊕ Nat) := progN ws (ws.length + 1) [] 0
theorem blockW_some {ws : List Wd} {j : Nat} (hj : j ≤ ws.length) : ∃ q, P ws (20 * ws.length + 40) .block j = some q ∧ (∀ l b k, q = .ok l b k → j + 1 ≤ k ∧ k ≤ ws.length) := by
  have := P_good ws (20 * ws.length + 40) .block j trivial hj (by simp only [rank]; omega)
  cases hq : P ws (20 * ws.length + 40) .block j with
  | none => rw [hq] at this; exact absurd this id
  | some q =>
    refine ⟨q, rfl, fun l b k e => ?_⟩
    subst e
    rw [hq] at this
    simp only [adv] at this
    exact ⟨by have := this.1; omega, this.2⟩
theorem prog_some (ws : List Wd) : ∀ (n : Nat) (acc : List Fu) (i : Nat), i ≤ ws.length → ws.length - i < n → ∃ r, progN ws n acc i = some r
  | 0, _, _, _, h => absurd h (by omega)
  | n + 1, acc, i, hi, h => by
    rw [progN]
    by_cases h1 : i < ws.length
    · rw [if_pos h1]
      by_cases h2 : isW ws i (bt [102, 117, 110]) = true
      · rw [if_pos h2]
        cases h3 : nameW ws (i + 1) with
        | none => exact ⟨_, rfl⟩
        | some t =>
          have l3 := nameW_lt h3
          simp only
          cases h4 : namesW ws (i + 2) with
          | inr j => exact ⟨_, rfl⟩
          | inl p =>
            obtain ⟨ps, j⟩ := p
            have h5 := namesW_good (ws := ws) (i := i + 2) (by omega)
            rw [h4] at h5
            simp only at h5 ⊢
            obtain ⟨q, hq, hk⟩ := blockW_some h5.2
            rw [hq]
            cases q with
            | bad k => exact ⟨_, rfl⟩
            | ok l b k =>
              have := hk l b k rfl
              exact prog_some ws n _ k this.2 (by omega)
      · rw [if_neg h2]
        exact ⟨_, rfl⟩
    · rw [if_neg h1]
      exact ⟨_, rfl⟩
theorem progW_some (ws : List Wd) : ∃ r, progW ws = some r := prog_some ws _ _ _ (Nat.zero_le _) (by omega)
end

/- program of the parser (printed by gen/prog.py). -/
section
open Go.RowKit
set_option linter.unusedSimpArgs false
section
variable {X : Px} {i j : Nat}
def Px.Pr (X : Px) (w : World) : List Fu ⊕ Nat → Ending → World → Prop
 | .inl fs => fun en w' => ∃ A' c' n, en = .returned (.agg #[.slice A' fs.length c']) ∧ RF (Bel w) n w' A' c' fs ∧ Fr [X.pb] w w'
 | .inr j => X.Bad w j
theorem results_prog {fn : Func} {p : Tmp} (h : fn.results = #[.cell p 25]) (tmps : Array Value) (w : World) (g : Nat) {a0 : Value} (hp : tmps.getD p undef = .pointer (some ⟨g, 0, none⟩)) (hb : Blk w g 25 #[a0]) :
  (results fn tmps).run Tryz.prog w = .ok (.agg #[a0]) w := by
 have c0 := hb.cell 0 rfl
 simp only [Array.getD_eq_getD_getElem?] at hp
 simp [results, h, go_sem, hp, c0]
theorem kindAt_end {ws : List Wd} {k : Nat} (h : ¬ k < ws.length) : kindAt ws k = 0 := by
 unfold kindAt
 rw [List.getElem?_eq_none (by omega)]
theorem kindAt_in {ws : List Wd} {k : Nat} (h : k < ws.length) : ¬ kindAt ws k = 0 := by
 unfold kindAt
 rw [List.getElem?_eq_getElem h]
 simp only [pk]
 split <;> (try split) <;> omega
set_option maxRecDepth 20000 in
set_option maxHeartbeats 6400000 in
theorem program_any {r : List Fu ⊕ Nat} (hnum : NumOk X.ws) (w : World) (h : X.At w 0) (hr : progW X.ws = some r) :
    Calls Tryz.prog 136 #[X.p] w (X.Pr w r) := by
  have HR0 : Hid (progN X.ws (X.ws.length + 1) [] 0 = some r) := hr
  have HNUM := Lib.hid hnum
  have hpl := X.lt h
  have hAt := h
  clear hr hnum
  go_enter Tryz.func136, Tryz.ntmps136
  go_wp2_with fail
  go_loopg [] (X.ws.length + 1) (fun gk wr => ∃ (acc : List Fu) (A : Option Addr) (c : Nat) (hs : List HdF) (nn k : Nat), gk ≤ X.ws.length + 1 ∧ acc.length ≤ k ∧ Blk wr (w.heap.size + 1) 25 #[.slice A acc.length c] ∧ Blk wr w.heap.size 25 #[.slice none 0 0] ∧ GFu (fun b => b < w.heap.size + 2) nn (w.heap.size + 2) wr A c acc hs ∧ X.At wr k ∧ Hid (progN X.ws gk acc k = some r) ∧ Fr [X.pb] w wr)
  case atStart => exact ⟨[], none, 0, [], 1, 0, Nat.le_refl _, Nat.le_refl _, Blk.new _ _ _ _ (by simp), (Blk.new w _ _ _ rfl).alloc _, GFu.nil _ _ _ _, (h.fr0 ((Fr.refl _ _).alloc _)).fr0 ((Fr.refl _ _).alloc _), HR0, ((Fr.refl _ _).alloc _).alloc _⟩
  case round =>
    obtain ⟨acc, A, c, hs, nn, k, hgk, hal, hO, hT2, hG, hk, HP, hf⟩ := hrel
    cases gk with
    | zero => exact absurd HP.out (by simp [progN])
    | succ m =>
      have hr := HP.out
      rw [progN] at hr
      clear HP HR0
      have hml := X.hm
      have hkl := hk.le
      have hzr := hf.size
      have hOl := hO.lt
      have HPK := Lib.hid (peek_any wr hk X.hm)
      by_cases hlt : k < X.ws.length
      · skip
        have hR := hT2
        rw [if_pos hlt] at hr
        have hkd : (kindAt X.ws k != 0) = true := by simpa using kindAt_in hlt
        generalize kindAt X.ws k = kd at *
        generalize textAt X.ws k = tx at *
        generalize placeAt X.ws X.e k = pt at *
        have hrow : ∀ b, RowB A b → w.heap.size + 2 ≤ b ∧ b < wr.heap.size := fun b ⟨a, ha, hab⟩ => by
          subst ha hab
          exact hG.own.lt a.block rfl
        have hfd : ∀ (a b c : Value) (W : World), (Instr.field 183 (.agg #[a, b, c]) 0).run Tryz.prog W = .ok a W := fun a b c W => by simp [Instr.field, asAgg, part]
        go_wp2_with fail
        refine HPK.out.mono ?_
        rintro en w1 ⟨rfl, hf1⟩
        clear HPK
        have zw1 := hf1.size
        have hO_w1 := hO.fr hf1 (by simp)
        have hR_w1 := hR.fr hf1 (by simp)
        have hG_w1 := hG.fr0 hf1
        have hF_w1 := hf.trans (hf1.mono (by simp))
        have a_w1 := hk.fr0 hf1
        go_wp2_with fail
        cases htk : isW X.ws k (bt [102, 117, 110]) with
        | false =>
          rw [htk, if_neg (by simp)] at hr
          injection hr with hr
          subst hr
          refine (take_bad a_w1 htk).mono ?_
          rintro en w9 ⟨rfl, hf9⟩
          clear htk
          go_wp2_with fail
          exact ⟨rfl, rfl, (hF_w1).trans hf9⟩
        | true =>
          rw [htk, if_pos rfl] at hr
          refine (take_ok a_w1 htk).mono ?_
          rintro en w2 ⟨rfl, fw2, a_w2⟩
          clear htk
          have zw2 := fw2.size
          have hO_w2 := fr_pb hO_w1 fw2 (by omega)
          have hR_w2 := fr_pb hR_w1 fw2 (by omega)
          have hG_w2 := hG_w1.fr fw2 (fun k hk => by simp at hk; subst hk; exact (by omega)) (fun k hk h => by simp at hk; subst hk; have := hrow _ h; omega)
          have hF_w2 := hF_w1.trans fw2
          go_wp2_with fail
          cases hnm : nameW X.ws (k + 1) with
          | none =>
            rw [hnm] at hr
            injection hr with hr
            subst hr
            refine (name_bad (a_w2.fr0 frx) hnm).mono ?_
            rintro en w9 ⟨rfl, hf9⟩
            clear hnm
            go_wp2_with fail
            exact ⟨rfl, rfl, (hF_w2).trans (Fr.trans frx hf9)⟩
          | some t =>
            rw [hnm] at hr
            simp only at hr
            refine (name_ok (a_w2.fr0 frx) hnm).mono ?_
            rintro en w3 ⟨rfl, fw3, a_w3⟩
            clear hnm
            have fw3 : Fr [X.pb] w2 w3 := Fr.trans frx fw3
            have zw3 := fw3.size
            have hO_w3 := fr_pb hO_w2 fw3 (by omega)
            have hR_w3 := fr_pb hR_w2 fw3 (by omega)
            have hG_w3 := hG_w2.fr fw3 (fun k hk => by simp at hk; subst hk; exact (by omega)) (fun k hk h => by simp at hk; subst hk; have := hrow _ h; omega)
            have hF_w3 := hF_w2.trans fw3
            go_wp2_with fail
            refine calls_hide (fun M4 hM4 => ?_)
            have fM4 : Fr [] w3 M4 := by rw [hM4]; exact frx
            have hTM4 : Blk M4 w3.heap.size 81 #[.string t, .slice none 0 0, .slice none 0 0] := by rw [hM4]; exact Blk.new _ _ _ _ rfl
            have hTl := hTM4.lt
            clear hM4
            have hGs := hG_w3.sub (S' := fun b => b < w.heap.size + 2 ∨ b = w3.heap.size) (fun k hk h => h.elim id fun h => by omega)
            have zM4 := fM4.size
            have hO_M4 := hO_w3.fr fM4 (by simp)
            have hR_M4 := hR_w3.fr fM4 (by simp)
            have hG_M4 := hGs.fr0 fM4
            have hF_M4 := hF_w3.trans (fM4.mono (by simp))
            have a_M4 := a_w3.fr0 fM4
            cases hn : namesW X.ws (k + 2) with
            | inr j =>
              rw [hn] at hr
              injection hr with hr
              subst hr
              refine (names_step _ a_M4 hn).mono ?_
              rintro en w9 ⟨rfl, hf9⟩
              clear hn
              go_wp2_with fail
              exact ⟨rfl, rfl, (hF_M4).trans hf9⟩
            | inl p =>
              obtain ⟨ps, j⟩ := p
              rw [hn] at hr
              simp only at hr
              have hjl := namesW_good (ws := X.ws) (i := k + 2) (a_M4).le
              rw [hn] at hjl
              simp only at hjl
              refine (names_step _ a_M4 hn).mono ?_
              rintro en w5 ⟨Ap, cp, rfl, hps, f5, a_w5⟩
              clear hn
              have zw5 := f5.size
              have hO_w5 := fr_pb hO_M4 f5 (by omega)
              have hR_w5 := fr_pb hR_M4 f5 (by omega)
              have hTM4_w5 := fr_pb hTM4 f5 (by omega)
              have hG_w5 := hG_M4.fr f5 (fun k hk => by simp at hk; subst hk; exact .inl (by omega)) (fun k hk h => by simp at hk; subst hk; have := hrow _ h; omega)
              have hF_w5 := hF_M4.trans f5
              have hP5 : RdS (fun b => b < M4.heap.size) w5 .string Ap cp ps := hps
              have x1 : w5.cell? ⟨w3.heap.size, 1, none⟩ = some (.slice none 0 0) := hTM4_w5.cell 1 rfl
              have y1 := hTM4_w5.frozen 1
              go_wp2_with fail
              refine calls_hide (fun M6 hM6 => ?_)
              have fM6 : Fr [w3.heap.size] w5 M6 := by rw [hM6]; exact (Fr.refl _ _).setCell (.inl (by simp)) _
              have hTM6 : Blk M6 (w3.heap.size) 81 #[.string t, .slice Ap ps.length cp, .slice none 0 0] := by rw [hM6]; simpa using hTM4_w5.set_ 1 (.slice Ap ps.length cp)
              clear hM6
              have zM6 := fM6.size
              have hO_M6 := hO_w5.fr fM6 (by simp <;> omega)
              have hR_M6 := hR_w5.fr fM6 (by simp <;> omega)
              have hP5_M6 := hP5.fr fM6 (fun k hk => by simp at hk; subst hk; exact (by omega))
              have hG_M6 := hG_w5.fr fM6 (fun k hk => by simp at hk; subst hk; exact .inr rfl) (fun k hk h => by simp at hk; subst hk; have := hrow _ h; omega)
              have hF_M6 : Fr [X.pb] w M6 := hF_w5.trans2 fM6 (fun x hx => by simp at hx; subst hx; exact .inr (by omega))
              have a_M6 := At.new hAt a_w5 fM6 (by simp <;> omega)
              obtain ⟨q, hq, hqk⟩ := blockW_some hjl.2
              rw [hq] at hr
              refine (does HNUM.out hq M6 a_M6).mono ?_
              clear hq
              intro en w7 hp7
              cases q with
              | bad k2 =>
                obtain ⟨rfl, hf9⟩ := hp7
                injection hr with hr
                subst hr
                go_wp2_with fail
                exact ⟨rfl, rfl, (hF_M6).trans hf9⟩
              | ok l b2 k2 =>
                obtain ⟨Ab, cb, nb, rfl, hbb, f7, a_w7⟩ := hp7
                have hkk := hqk l b2 k2 rfl
                have HP2 : Hid (progN X.ws m (acc ++ [⟨t, ps, l⟩]) k2 = some r) := hr
                clear hr hqk
                have zw7 := f7.size
                have hO_w7 := fr_pb hO_M6 f7 (by omega)
                have hR_w7 := fr_pb hR_M6 f7 (by omega)
                have hTM6_w7 := fr_pb hTM6 f7 (by omega)
                have hP5_w7 := hP5_M6.fr f7 (fun k hk => by simp at hk; subst hk; exact (by omega))
                have hG_w7 := hG_M6.fr f7 (fun k hk => by simp at hk; subst hk; exact .inl (by omega)) (fun k hk h => by simp at hk; subst hk; have := hrow _ h; omega)
                have hF_w7 := hF_M6.trans f7
                have hB7 : LN (fun b => b < M4.heap.size) nb w7 Ab cb l := hbb.sub fun k _ hk => by
                  have hlt5 : k < M6.heap.size := by omega
                  exact hlt5
                have x2 : w7.cell? ⟨w3.heap.size, 2, none⟩ = some (.slice none 0 0) := hTM6_w7.cell 2 rfl
                have y2 := hTM6_w7.frozen 2
                go_upto_region 7 with fail
                refine wp_hide (fun M8 hM8 => ?_)
                have fM8 : Fr [w3.heap.size] w7 M8 := by rw [hM8]; exact (Fr.refl _ _).setCell (.inl (by simp)) _
                have hTM8 : Blk M8 (w3.heap.size) 81 #[.string t, .slice Ap ps.length cp, .slice Ab l.length cb] := by rw [hM8]; simpa using hTM6_w7.set_ 2 (.slice Ab l.length cb)
                clear hM8
                have zM8 := fM8.size
                have hO_M8 := hO_w7.fr fM8 (by simp <;> omega)
                have hR_M8 := hR_w7.fr fM8 (by simp <;> omega)
                have hP5_M8 := hP5_w7.fr fM8 (fun k hk => by simp at hk; subst hk; exact (by omega))
                have hB7_M8 := hB7.fr fM8 (fun k hk => by simp at hk; subst hk; exact (by omega))
                have hG_M8 := hG_w7.fr fM8 (fun k hk => by simp at hk; subst hk; exact .inr rfl) (fun k hk h => by simp at hk; subst hk; have := hrow _ h; omega)
                have hF_M8 : Fr [X.pb] w M8 := hF_w7.trans2 fM8 (fun x hx => by simp at hx; subst hx; exact .inr (by omega))
                have a_M8 := At.new hAt a_w7 fM8 (by simp <;> omega)
                have o0 : M8.cell? ⟨w.heap.size + 1, 0, none⟩ = some (.slice A acc.length c) := hO_M8.cell 0 rfl
                have u0 : M8.cell? ⟨w3.heap.size, 0, none⟩ = some (.string t) := hTM8.cell 0 rfl
                have u1 : M8.cell? ⟨w3.heap.size, 1, none⟩ = some (.slice Ap ps.length cp) := hTM8.cell 1 rfl
                have u2 : M8.cell? ⟨w3.heap.size, 2, none⟩ = some (.slice Ab l.length cb) := hTM8.cell 2 rfl
                have f9 : Fr [] M8 (M8.alloc (.cells #[.string t, .slice Ap ps.length cp, .slice Ab l.length cb] 81)) := (Fr.refl _ _).alloc _
                have hB9 : Blk (M8.alloc (.cells #[.string t, .slice Ap ps.length cp, .slice Ab l.length cb] 81)) M8.heap.size 81 #[.string t, .slice Ap ps.length cp, .slice Ab l.length cb] := Blk.new _ _ _ _ rfl
                have hG9 := (hG_M8.mono (Nat.le_max_left nn nb)).fr0 f9
                have hU9 : FuH (fun b => b < M4.heap.size) (max nn nb) (M8.alloc (.cells #[.string t, .slice Ap ps.length cp, .slice Ab l.length cb] 81)) ⟨Ap, cp, Ab, cb⟩ ⟨t, ps, l⟩ := ⟨hP5_M8.fr0 f9, (hB7_M8.fr0 f9).mono (Nat.le_max_right nn nb)⟩
                have hc9 : Cells (M8.alloc (.cells #[.string t, .slice Ap ps.length cp, .slice Ab l.length cb] 81)) (some ⟨M8.heap.size, 0, none⟩) (fuL ⟨t, ps, l⟩ ⟨Ap, cp, Ab, cb⟩) := fun _ => ⟨M8.heap.size, 0, rfl, fun j u hu => by rw [Nat.zero_add]; exact hB9.cell j (by simpa using hu)⟩
                have hO9 := hO_M8.fr f9 (by simp)
                have hR9 := hR_M8.fr f9 (by simp)
                have a9 := a_M8.fr0 f9
                have hF9 := hF_M8.trans (f9.mono (by simp))
                have hz9 := f9.size
                go_wp2_with (at_builtin; refine wpList_append_g rfl (.tmp 21) (.tmp 23) _ rfl elemFu (.slice A acc.length c) (flatU acc hs) rfl hG9.own (some ⟨M8.heap.size, 0, none⟩) 1 1 (fuL ⟨t, ps, l⟩ ⟨Ap, cp, Ab, cb⟩) rfl hc9 rfl (Nat.le_refl _) (fuL_one _ _) ?c2 ?c3 ?_)
                case c2 => omega
                case c3 => simp; omega
                intro A6 c6 w10 ho6 hg6 hat6
                have hF10 : Fr [X.pb] w w10 := Fr.app hF9 hG9.own (by omega) hg6
                have hG10 := hG9.app (b0 := M4.heap.size) hU9 (fun b hb => by have := hrow b hb; omega) (fun k hk => by rcases hk with hk | hk <;> omega) (by simp; omega) hg6 ho6 (by simpa using hat6)
                have hO10 := hO9.grown hg6 (fun e => by have := (hG9.own.lt _ e.symm).1; omega)
                have hR10 := hR9.grown hg6 (fun e => by have := (hG9.own.lt _ e.symm).1; omega)
                have a10 : X.At w10 k2 := At.grown hAt a9 hg6 (fun b hb => by have := (hG9.own.lt b hb).1; omega)
                have z0 := hO10.cell 0 rfl
                have z1 := hO10.frozen 0
                clear hG9 hU9 hc9 ho6 hg6 hat6 hbb hps
                go_wp2_with fail
                go_roundg m
                case measure => omega
                case rel =>
                  have hS : Fr [w.heap.size + 1] w10 (w10.setCell ⟨w.heap.size + 1, 0, none⟩ (.slice A6 (acc.length + 1) c6)) := (Fr.refl _ _).setCell (.inl (by simp)) _
                  have hr11 : ∀ b, RowB A6 b → w.heap.size + 2 ≤ b := fun b ⟨a, ha, hab⟩ => by
                    subst ha hab
                    exact (hG10.own.lt a.block rfl).1
                  exact ⟨acc ++ [⟨t, ps, l⟩], A6, c6, hs ++ [⟨Ap, cp, Ab, cb⟩], max nn nb, k2, by omega, by simp; omega, by simpa using hO10.set_ 0 (.slice A6 (acc.length + 1) c6), hR10.fr hS (by simp), (hG10.sub (S' := fun b => b < w.heap.size + 2) fun k _ hk => .inl hk).fr hS (fun k hk => by simp at hk; subst hk; omega) (fun k hk h => by simp at hk; subst hk; have := hr11 _ h; omega), At.new hAt a10 hS (by simp), HP2, hF10.setCell (p := ⟨w.heap.size + 1, 0, none⟩) (.inr (by show w.heap.size ≤ w.heap.size + 1; omega)) _⟩
      · skip
        rw [if_neg hlt] at hr
        injection hr with hr
        subst hr
        rw [kindAt_end hlt] at HPK
        generalize textAt X.ws k = tx at *
        generalize placeAt X.ws X.e k = pt at *
        clear hlt
        go_wp2_with fail
        refine HPK.out.mono ?_
        rintro en w1 ⟨rfl, hf1⟩
        have hO1 := hO.fr hf1 (by simp)
        have hT1 := hT2.fr hf1 (by simp)
        have o0 : w1.cell? ⟨w.heap.size + 1, 0, none⟩ = some (.slice A acc.length c) := hO1.cell 0 rfl
        have t0 : w1.cell? ⟨w.heap.size, 0, none⟩ = some (.slice none 0 0) := hT1.cell 0 rfl
        have tz := hT1.frozen 0
        have hfd : ∀ (a b c : Value) (W : World), (Instr.field 183 (.agg #[a, b, c]) 0).run Tryz.prog W = .ok a W := fun a b c W => by simp [Instr.field, asAgg, part]
        go_wp2_with fail
        refine bodyPost_ret (results_prog rfl _ _ w.heap.size rfl (hT1.set_ 0 _)) rfl ?_
        refine ⟨A, c, nn, rfl, ?_, (hf.trans (hf1.mono (by simp))).setCell (p := ⟨w.heap.size, 0, none⟩) (.inr (Nat.le_refl _)) _⟩
        exact ((hG.fr0 hf1).rf (fun k hk h => by omega)).fr ((Fr.refl [w.heap.size] w1).setCell (p := ⟨w.heap.size, 0, none⟩) (.inl (by simp)) _) (fun k hk => by simp at hk; subst hk; omega) |>.sub fun k _ hk => by have hk : k < w.heap.size := hk; omega
end
end

end Go.Proofs.YtchldahkcpbgcaaGreatDoor
