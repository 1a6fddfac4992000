/- Texts of this seat, one behind the other: LKept. -/
import Derived.Test.YtchldahkcpbgcaaGreatDoorsk35
import Derived.Test.YtchldahkcpbgcaaGreatDoorsk45
import Derived.Test.YtchldahkcpbgcaaGreatDoorsk30
namespace Go.Proofs.YtchldahkcpbgcaaGreatDoor
set_option linter.unusedVariables false

/- LangKept: the walk. -/
section
open Go.RowKit Go.Sort
set_option linter.unusedSimpArgs false
theorem elemBo : Elem Tryz.prog 50 4 (.bool false) 1 1 := ⟨Tryz.underlying50, by kernel_rfl, rfl, by omega, by omega⟩
theorem own_blk0 {w : World} {base g n : Nat} {e : TypeId} {xs : List Value} (h : w.ownsRow base e 1 (.slice (some ⟨g, 0, none⟩) n n) n xs) : Blk w g e xs.toArray := by
 rcases h.2 with ⟨he, _⟩ | ⟨g', cap, cur, he, _, hh, hnc, _, hsz, htk⟩
 ·simp at he
 ·injection he with e1 e2 e3
  injection e1 with e1
  injection e1 with e1
  subst e1 e3
  have : cur = xs.toArray := by
   have hc : cur.toList.length = n := by simp [hsz]
   rw [List.take_of_length_le (by omega)] at htk
   rw [← htk]
  subst this
  exact hh
abbrev BoR (w : World) (g : Nat) (f : Nat → Bool) (n : Nat) : Prop := Blk w g 4 ((List.range n).map fun j => Value.bool (f j)).toArray
theorem BoR.at_ {w : World} {g n : Nat} {f : Nat → Bool} (h : BoR w g f n) {k : Nat} (hk : k < n) : w.cell? ⟨g, k, none⟩ = some (.bool (f k)) := h.cell k (by simp [hk])
theorem BoR.put {w : World} {g n : Nat} {f f' : Nat → Bool} (h : BoR w g f n) {k : Nat} (hk : k < n) (v : Bool) (hf : ∀ j, j < n → f' j = if j = k then v else f j) : BoR (w.setCell ⟨g, k, none⟩ (.bool v)) g f' n := by
 have h1 := Blk.set_ h k (.bool v)
 simp only [lA] at h1
 have : ((List.range n).map fun j => Value.bool (f j)).set k (.bool v) = (List.range n).map fun j => Value.bool (f' j) := by
  apply List.ext_getElem
  ·simp
  ·intro j h2 h3
   simp at h3
   rw [List.getElem_set]
   simp
   rw [hf j h3]
   by_cases hj : j = k
   ·subst hj; simp
   ·rw [if_neg (fun e => hj e.symm), if_neg hj]
 unfold BoR
 rw [← this]
 exact h1
theorem BoR.like {w : World} {g n : Nat} {f f' : Nat → Bool} (h : BoR w g f n) (hf : ∀ j, j < n → f' j = f j) : BoR w g f' n := by
 have : ((List.range n).map fun j => Value.bool (f' j)) = (List.range n).map fun j => Value.bool (f j) := List.map_congr_left fun j hj => by rw [hf j (by simpa using hj)]
 unfold BoR
 rw [this]
 exact h
theorem BoR.made {w : World} {base g n : Nat} (h : w.ownsRow base 4 1 (.slice (some ⟨g, 0, none⟩) n n) n (List.replicate n (.bool false))) : BoR w g (fun _ => false) n := by
 have h1 := own_blk0 h
 have : (List.range n).map (fun _ => Value.bool false) = List.replicate n (.bool false) := by
  apply List.ext_getElem
  ·simp
  ·intro j h2 h3; simp
 unfold BoR
 rw [this]
 exact h1
theorem BoR.rd {w : World} {g n : Nat} {f : Nat → Bool} (h : BoR w g f n) (hn : n ≤ maxLen) : Rd w .bool (some ⟨g, 0, none⟩) n ((List.range n).map f) := by
 have := Rd.of_blk (enc := Value.bool) (g := g) (t := 4) (xs := (List.range n).map f) (by rw [List.map_map]; exact h) (by simpa using hn)
 simpa using this
set_option maxRecDepth 20000 in
set_option maxHeartbeats 6400000 in
theorem LKept_any {S : Nat → Prop} {m nw : Nat} {A Aw Ak : Option Addr} {c cw ck : Nat} {l : List Fu} {wt : List Nd} {kp : List Bool} {w : World} (z : Int) (hl : RF S m w A c l) (ht : tmF l) (hfl : l.length ≤ 140737488351232) (hK : RdS (fun _ => False) w .bool Ak ck kp) (hwl : wt.length ≤ 9223372036854775807) (hT : Tabs w) :
  Calls Tryz.prog 10 #[.agg #[.slice A l.length c], .agg #[.int .i64 z, .slice Aw wt.length cw, .slice Ak kp.length ck]] w (RetV w (.bool true)) := by
 have hkb := hK.1.bound
 obtain ⟨W, hW⟩ : ∃ W, W = (w.alloc (.cells #[.slice A l.length c] 25)).alloc (.cells #[.int .i64 z, .slice Aw wt.length cw, .slice Ak kp.length ck] 52) := ⟨_, rfl⟩
 have hfW : Fr [] w W := by rw [hW]; exact frx
 have hB1 : Blk W w.heap.size 25 #[.slice A l.length c] := by rw [hW]; exact (Blk.new _ _ _ _ rfl).alloc _
 have hB2 : Blk W (w.heap.size + 1) 52 #[.int .i64 z, .slice Aw wt.length cw, .slice Ak kp.length ck] := by rw [hW]; exact Blk.new _ _ _ _ (by simp)
 have q0 : W.cell? ⟨w.heap.size, 0, none⟩ = some (.slice A l.length c) := hB1.cell 0 rfl
 have p0 : W.cell? ⟨w.heap.size + 1, 0, none⟩ = some (.int .i64 z) := hB2.cell 0 rfl
 have p2 : W.cell? ⟨w.heap.size + 1, 2, none⟩ = some (.slice Ak kp.length ck) := hB2.cell 2 rfl
 have HW := Lib.hid hW.symm
 have HLV : Hid (∀ V, Fr [] W V → Calls Tryz.prog 16 #[] V (RetV V (.bool true))) := Lib.hid fun V h => lives_t (hT.fr (hfW.trans h))
 have HG1 : Hid (∀ V, Fr [] W V → Calls Tryz.prog 24 #[.agg #[.slice A l.length c]] V (RetV V (.bool (greatP l)))) := Lib.hid fun V h => Great_any (hl.fr0 (hfW.trans h)) ht hfl
 have HRL : Hid (∀ V, Fr [] W V → RF S m V A c l) := Lib.hid fun V h => hl.fr0 (hfW.trans h)
 have HKW : Hid (∀ V, Fr [] W V → RdS (fun _ => False) V .bool Ak ck kp) := Lib.hid fun V h => hK.fr0 (hfW.trans h)
 obtain ⟨g1, hg1⟩ : ∃ g, greatP l = g := ⟨_, rfl⟩
 rw [hg1] at HG1
 have HGP := Lib.hid hg1
 have HTM := Lib.hid ht
 clear hW hg1 ht hT hfl hl hK hB1 hB2 hwl
 go_enter Tryz.func10, Tryz.ntmps10
 go_upto_region 1 with fail
 rw [HW.out]
 go_wp2_with fail
 refine (HG1.out _ (Fr.refl _ _)).mono ?_
 rintro e w1 ⟨rfl, hf1⟩
 cases g1
 rotate_left 1
 ·go_wp2_with fail
  refine (HLV.out _ hf1).mono ?_
  rintro e w2 ⟨rfl, hf2⟩
  go_wp2
  go_ret
  exact ⟨rfl, (hfW.trans hf1).trans hf2⟩
 have hsm := small_of HGP.out
 have hcn : cntF l ≤ 1000000000 := by omega
 have htx := tmF_tx HTM.out
 have hp2 := hf1.cell p2 (by simp)
 have hq0 := hf1.cell q0 (by simp)
 by_cases hk3 : (3000 : Int) < kp.length
 ·clear hsm hcn htx q0 p0 p2
  go_wp2_with fail
  refine (HLV.out _ hf1).mono ?_
  rintro e w2 ⟨rfl, hf2⟩
  go_wp2
  go_ret
  exact ⟨rfl, (hfW.trans hf1).trans hf2⟩
 have HSH : Hid (∀ V, Fr [] W V → Calls Tryz.prog 46 #[.agg #[.slice A l.length c]] V (RetV V (.int .i64 (shapeP l)))) := Lib.hid fun V hV => Shape_any A c l S m V (HRL.out V hV) hcn htx
 obtain ⟨sh, hsh⟩ : ∃ s, shapeP l = s := ⟨_, rfl⟩
 rw [hsh] at HSH
 have HS := Lib.hid hsh
 have HCN := Lib.hid hcn
 have HTX := Lib.hid htx
 have hkp : kp.length ≤ 3000 := by omega
 clear hsh hsm hcn htx HTM HGP HG1
 go_wp2_with fail
 refine (HSH.out _ hf1).mono ?_
 rintro e w2 ⟨rfl, hf2⟩
 have hf2 := hf1.trans hf2
 by_cases hs0 : sh = 0
 rotate_left 1
 ·have ez : (sh != 0) = true := by simpa using hs0
  clear hs0 q0 p0 p2 hp2 hq0
  go_wp2_with fail
  refine (HLV.out _ hf2).mono ?_
  rintro e w3 ⟨rfl, hf3⟩
  go_wp2
  go_ret
  exact ⟨rfl, (hfW.trans hf2).trans hf3⟩
 subst hs0
 obtain ⟨N, hN⟩ : ∃ N, nuF l = N := ⟨_, rfl⟩
 have hNs : N ≤ 1024 := by have := nuF_le l; have := (shape_small HS.out).1; omega
 have HN := Lib.hid hN
 have HCT : Hid (∀ V, Fr [] W V → Calls Tryz.prog 29 #[.agg #[.slice A l.length c]] V (RetV V (.int .i64 N))) := Lib.hid fun V hV => by
  have := Count_any A c l S m V (HRL.out V hV) HCN.out HTX.out
  rw [count_nu HS.out, HN.out] at this
  exact this
 clear hN HSH hp2 hq0
 have hq0 := hf2.cell q0 (by simp)
 go_wp2_with fail
 refine (HCT.out _ hf2).mono ?_
 rintro e w3 ⟨rfl, hf3⟩
 have hf3 := hf2.trans hf3
 clear hq0 hf2 hf1
 obtain ⟨gb, hgb⟩ : ∃ g, g = w3.heap.size := ⟨_, rfl⟩
 go_upto_region 5 with (refine wpList_makeN rfl _ _ _ rfl elemBo rfl N rfl rfl (by omega) ?_; intro w4 ho4 hg4)
 rw [← hgb] at ho4 ⊢
 have hB4 := BoR.made ho4
 have hf4 : Fr [] W w4 := hf3.grown hg4 (by simp)
 have hgw : W.heap.size ≤ gb := by have := hf3.size; omega
 have HGB := Lib.hid hgb
 clear hgb ho4 hg4
 have hB4 : BoR w4 gb (fun j => decide (j < 0)) N := hB4.like fun j _ => by simp
 go_wp2
 go_loopw [7] (fun i wr => ∃ k : Nat, k ≤ N ∧ i = .int .i64 k ∧ BoR wr gb (fun j => decide (j < k)) N ∧ Fr [] W wr) (fun i _ => N - (intOf i).toNat)
 case atStart => exact ⟨0, Nat.zero_le _, rfl, hB4, hf4⟩
 case round =>
  obtain ⟨k, hk, rfl, hB, hf⟩ := hrel
  clear hB4 hf4
  by_cases hlt : k < N
  ·have b0 : wr.cell? ⟨gb, k, none⟩ = some (.bool (decide (k < k))) := hB.at_ hlt
   have z0 := Blk.frozen hB k
   have HB := Lib.hid (hB.put hlt true (f' := fun j => decide (j < k + 1)) (fun j hj => by
    by_cases hjk : j = k
    ·subst hjk; simp
    ·rw [if_neg hjk, Bool.eq_iff_iff]; simp; omega))
   clear hB
   go_wp2
   go_roundw
   case rel => exact ⟨k + 1, by omega, by go_num, HB.out, hf.trans2 (fr_put wr gb k (.bool true)) (fun b hb => .inr (by simp at hb; omega))⟩
   case measure => simp [intOf]; omega
  ·have hall : BoR wr gb (fun _ => true) N := hB.like fun j hj => by simp; omega
   have hrd := hall.rd (by unfold maxLen; omega)
   have hrep : (List.range N).map (fun _ => true) = List.replicate N true := by
    apply List.ext_getElem
    ·simp
    ·intro j h2 h3; simp
   rw [hrep] at hrd
   have hq0 := hf.cell q0 (by simp)
   have HKP : Hid (Calls Tryz.prog 35 #[.agg #[.slice A l.length c], .slice (some ⟨gb, 0, none⟩) N N] wr (RetPE wr (l, 0))) := Lib.hid (by
    have := Keep_any (S' := fun _ => False) (HRL.out wr hf) ⟨hrd, fun _ _ _ h => h⟩ HCN.out HTX.out
    rw [← HN.out, all_kept HS.out, HN.out] at this
    simpa using this)
   clear hB hrd hrep hall
   go_wp2_with fail
   refine HKP.out.mono ?_
   rintro e w5 ⟨A5, c5, m5, rfl, hR5, hf5⟩
   have hw5 := hf.trans hf5
   obtain ⟨g5, hg5⟩ : ∃ g, g = w5.heap.size := ⟨_, rfl⟩
   go_upto_region 10 with fail
   rw [← hg5]
   refine wp_hide (fun M hM => ?_)
   have hfM : Fr [] w5 M := by rw [hM]; exact (Fr.refl _ _).alloc _
   have hBM : Blk M g5 25 #[.slice A5 l.length c5] := by rw [hM]; exact Blk.new _ _ _ _ hg5
   have hwM := hw5.trans hfM
   have hRM := hR5.fr0 hfM
   have g0 : M.cell? ⟨g5, 0, none⟩ = some (.slice A5 l.length c5) := hBM.cell 0 rfl
   have qM := hwM.cell q0 (by simp)
   have pM := hwM.cell p0 (by simp)
   have HSM : Hid (Calls Tryz.prog 25 #[.agg #[.slice A l.length c], .agg #[.slice A5 l.length c5]] M (RetV M (.bool true))) := Lib.hid (by
    have := Same_any (HRL.out M hwM) hRM
    rw [eqFs_self] at this
    exact this)
   clear hM hg5 hBM hfM hR5 hq0 HKP hf5 hw5
   go_wp2_with fail
   refine HSM.out.mono ?_
   rintro e w6 ⟨rfl, hf6⟩
   have hw6 := hwM.trans hf6
   have q6 := hw6.cell q0 (by simp)
   have p6 := hw6.cell p0 (by simp)
   clear HSM hRM g0 qM pM hwM
   have HAT : Hid (∀ V (k : Int), Fr [] W V → Calls Tryz.prog 30 #[.agg #[.slice A l.length c], .int .i64 k] V (RetAt V l k)) := Lib.hid fun V k hV => At_any k (HRL.out V hV) HCN.out HTX.out
   go_wp2_with fail
   refine (HAT.out _ z hw6).mono ?_
   rintro e w7 ⟨hf7, hr7⟩
   rw [if_neg (by simp [HS.out])] at hr7
   have hw7 := hw6.trans hf7
   have q7 := hw7.cell q0 (by simp)
   have p7 := hw7.cell p0 (by simp)
   have k7 := hw7.cell p2 (by simp)
   clear q6 p6
   rcases hfp : findP l z with _ | pl
   case' none =>
    rw [hfp] at hr7
    dsimp only at hr7
    subst hr7
    clear hfp
    go_upto_region 17 with fail
    refine wp_hide (fun M17 hM17 => ?_)
    have hw17 : Fr [] W M17 := hw7.trans (by rw [hM17]; exact frx)
    clear hM17 hf7 hw7 q7 p7 k7 hw6 hf6
   case' some =>
    rw [hfp] at hr7
    dsimp only at hr7
    obtain ⟨h7, m7, rfl, hn7⟩ := hr7
    have hrp := own_place HS.out hfp
    have hpk := plF_mem l 0 0 pl (List.mem_of_getElem? (findP_mem hfp).2) (fun f hf => (shape_pp HS.out f hf).1)
    have hc24 := (shape_small HS.out).1
    obtain ⟨_, gg, hgg⟩ := place_ok HS.out (List.mem_of_getElem? (findP_mem hfp).2)
    have hptx := okB_tx _ _ hgg
    obtain ⟨x, sp⟩ := pl
    dsimp only at hn7 hrp hpk hptx
    have HRP : Hid (∀ V g, Fr [] W V → Blk V g 46 (ndCells x h7) → NdH (Bel w6) m7 V h7 x → Calls Tryz.prog 28 #[.agg #[.slice A l.length c], .int .i64 z, .slice (some ⟨g, 0, none⟩) 1 1] V (RetPE V (l, 0))) := Lib.hid fun V g hV hB hn => by
     have := Replace_any (wt := [x]) (Aw := some ⟨g, 0, none⟩) (cw := 1) (S' := fun _ => False) (nw := m7 + 1) z (HRL.out V hV) (LN.one hB id (hn.sub fun _ _ h => absurd h id)) HCN.out HTX.out (by simp) (by rw [cntL, cntL]; omega) (by rw [ppL, ppL]; exact ⟨hpk.1, trivial⟩) (fun y hy => by simp at hy; subst hy; exact hptx)
     rw [hrp] at this
     exact this
    clear hrp hpk hc24 hgg hptx hfp
    obtain ⟨g7, hg7⟩ : ∃ g, g = w7.heap.size := ⟨_, rfl⟩
    go_upto_region 14 with fail
    rw [← hg7]
    refine wp_hide (fun M8 hM8 => ?_)
    have hf8 : Fr [] w7 M8 := by rw [hM8]; exact (Fr.refl _ _).alloc _
    have hB8 : Blk M8 g7 46 (ndCells x h7) := by rw [hM8]; exact Blk.new _ _ _ _ hg7
    have hw8 := hw7.trans hf8
    have hn8 := hn7.fr0 hf8
    have q8 := hw8.cell q0 (by simp)
    have p8 := hw8.cell p0 (by simp)
    obtain ⟨c0, c1, c2, c3, c4, c5, c6⟩ := hB8.cs
    have hf9 : Fr [] M8 (M8.alloc (.cells (ndCells x h7) 46)) := (Fr.refl _ _).alloc _
    clear hM8 hg7 q7 p7 k7 hn7 hf7 hw6 hf6
    go_wp2_with fail
    refine (HRP.out _ M8.heap.size (hw8.trans hf9) (Blk.new _ _ _ _ rfl) (hn8.fr0 hf9)).mono ?_
    rintro e w9 ⟨A9, c9, m9, rfl, hR9, hf10⟩
    have hw9 := (hw8.trans hf9).trans hf10
    obtain ⟨g9, hg9⟩ : ∃ g, g = w9.heap.size := ⟨_, rfl⟩
    clear c0 c1 c2 c3 c4 c5 c6 q8 p8 hB8 hn8
    go_upto_region 15 with fail
    rw [← hg9]
    refine wp_hide (fun M10 hM10 => ?_)
    have hf11 : Fr [] w9 M10 := by rw [hM10]; exact (Fr.refl _ _).alloc _
    have hB10 : Blk M10 g9 25 #[.slice A9 l.length c9] := by rw [hM10]; exact Blk.new _ _ _ _ hg9
    have hw10 := hw9.trans hf11
    have hR10 := hR9.fr0 hf11
    have g0 : M10.cell? ⟨g9, 0, none⟩ = some (.slice A9 l.length c9) := hB10.cell 0 rfl
    have q10 := hw10.cell q0 (by simp)
    have HS2 : Hid (Calls Tryz.prog 25 #[.agg #[.slice A l.length c], .agg #[.slice A9 l.length c9]] M10 (RetV M10 (.bool true))) := Lib.hid (by
     have := Same_any (HRL.out M10 hw10) hR10
     rw [eqFs_self] at this
     exact this)
    clear hM10 hg9 hR9 hR10 hB10 hf11 hw9 hf10 hf9 hw8 hf8
    go_wp2_with fail
    refine HS2.out.mono ?_
    rintro e w11 ⟨rfl, hf11⟩
    clear HS2 g0 q10
    go_upto_region 17 with fail
    refine wp_hide (fun M17 hM17 => ?_)
    have hw17 : Fr [] W M17 := (hw10.trans hf11).trans (by rw [hM17]; exact frx)
    clear hM17 hf11 hw10 hw7
   all_goals (
    have p17 := hw17.cell p2 (by simp)
    by_cases hkn : (kp.length : Int) = N
    rotate_left 1
    ·have ekn : ((kp.length : Int) != N) = true := by simpa using hkn
     clear hkn
     go_wp2_with fail
     refine (HLV.out _ hw17).mono ?_
     rintro e w18 ⟨rfl, hf18⟩
     go_wp2
     go_ret
     exact ⟨rfl, (hfW.trans hw17).trans hf18⟩
    obtain ⟨hko, hsq, T, hTT, hct, hat⟩ := kept_law (kp := kp) HS.out (by rw [HN.out]; omega)
    rw [HN.out] at hTT hct hat
    obtain ⟨q, hq⟩ : ∃ q, edF (keepE kp) l 0 = q := ⟨_, rfl⟩
    rw [hq] at hko hsq hct hat
    have hqc := (shape_small hsq).1
    have hqt := txF_of_shape hsq
    have HKQ : Hid (∀ V, Fr [] W V → Calls Tryz.prog 35 #[.agg #[.slice A l.length c], .slice Ak kp.length ck] V (RetPE V (q, 0))) := Lib.hid fun V hV => by
     have := Keep_any (HRL.out V hV) (HKW.out V hV) HCN.out HTX.out
     rw [hko] at this
     exact this
    have HSQ : Hid (∀ V A c n S, RF S n V A c q → Calls Tryz.prog 46 #[.agg #[.slice A q.length c]] V (RetV V (.int .i64 0))) := Lib.hid fun V A c n S hR => by
     have := Shape_any A c q S n V hR (by omega) hqt
     rw [hsq] at this
     exact this
    have HCQ : Hid (∀ V A c n S, RF S n V A c q → Calls Tryz.prog 29 #[.agg #[.slice A q.length c]] V (RetV V (.int .i64 (nth T N : Nat)))) := Lib.hid fun V A c n S hR => by
     have := Count_any A c q S n V hR (by omega) hqt
     rw [hct] at this
     exact this
    have HAQ : Hid (∀ V A c n S (i : Nat) a, findP q i = some a → RF S n V A c q → Calls Tryz.prog 30 #[.agg #[.slice A q.length c], .int .i64 i] V (fun en w' => ∃ h, en = .returned (.tuple #[.agg (ndCells a.1 h), .int .i64 0]) ∧ Fr [] V w')) := Lib.hid fun V A c n S i a ha hR =>
     (At_any i hR (by omega) hqt).mono fun en w' hr => by
      obtain ⟨hf, hr⟩ := hr
      rw [if_neg (by simp [hsq]), ha] at hr
      obtain ⟨h, _, he, _⟩ := hr
      exact ⟨h, he, hf⟩
    have HAL : Hid (∀ V (i : Nat) a, Fr [] W V → findP l i = some a → Calls Tryz.prog 30 #[.agg #[.slice A l.length c], .int .i64 i] V (fun en w' => ∃ h, en = .returned (.tuple #[.agg (ndCells a.1 h), .int .i64 0]) ∧ Fr [] V w')) := Lib.hid fun V i a hV ha =>
     (HAT.out V i hV).mono fun en w' hr => by
      obtain ⟨hf, hr⟩ := hr
      rw [if_neg (by simp [HS.out]), ha] at hr
      obtain ⟨h, _, he, _⟩ := hr
      exact ⟨h, he, hf⟩
    have HWH : Hid (∀ V (i : Nat) a, Fr [] W V → findP l i = some a → Calls Tryz.prog 27 #[.agg #[.slice A l.length c], .int .i64 i] V (RetV V (.tuple #[.agg (spotC a.2), .int .i64 0]))) := Lib.hid fun V i a hV ha => by
     have := Where_any i A c l S m V (HRL.out V hV) HCN.out HTX.out
     unfold whereO at this
     rw [if_neg (by simp [HS.out]), ha] at this
     exact this
    have HTT := Lib.hid hTT
    have HAA := Lib.hid hat
    have hnth : ∀ i, nth T i ≤ i := fun i => by
     induction i with
     | zero => exact Nat.le_refl _
     | succ i ih => rw [nth]; split <;> omega
    have HNT := Lib.hid hnth
    have ekn : ((kp.length : Int) != N) = false := by simpa using hkn
    have hkn2 : kp.length = N := by omega
    have HKN := Lib.hid hkn2
    clear hko hsq hct hat hqc hqt hq hTT hnth hkn hkn2
    have q17 := hw17.cell q0 (by simp)
    go_wp2_with fail
    refine (HKQ.out _ hw17).mono ?_
    rintro e w18 ⟨Aq, cq, mq, rfl, hRq, hf18⟩
    obtain ⟨gk, hgk⟩ : ∃ g, g = w18.heap.size := ⟨_, rfl⟩
    go_upto_region 20 with fail
    rw [← hgk]
    refine wp_hide (fun M20 hM20 => ?_)
    have hf20 : Fr [] w18 M20 := by rw [hM20]; exact (Fr.refl _ _).alloc _
    have hB20 : Blk M20 gk 25 #[.slice Aq q.length cq] := by rw [hM20]; exact Blk.new _ _ _ _ hgk
    have hw20 := (hw17.trans hf18).trans hf20
    have hR20 := hRq.fr0 hf20
    have k20 : M20.cell? ⟨gk, 0, none⟩ = some (.slice Aq q.length cq) := hB20.cell 0 rfl
    clear hM20 hgk hB20 hf20 hf18 hRq q17 p17
    go_wp2_with fail
    refine (HSQ.out _ _ _ _ _ hR20).mono ?_
    rintro e w21 ⟨rfl, hf21⟩
    have hw21 := hw20.trans hf21
    have HRQ : Hid (∀ V, Fr [] w21 V → RF (Bel M17) mq V Aq cq q) := Lib.hid fun V hV => hR20.fr0 (hf21.trans hV)
    have k21 := hf21.cell k20 (by simp)
    obtain ⟨gt, hgt⟩ : ∃ g, g = w21.heap.size := ⟨_, rfl⟩
    go_upto_region 23 with (refine wpList_makeN rfl _ _ _ rfl elemBo rfl N rfl rfl (by omega) ?_; intro w22 ho22 hg22)
    rw [← hgt] at ho22 ⊢
    have hB22 := BoR.made ho22
    have hf22 : Fr [] w21 w22 := (Fr.refl _ _).grown hg22 (by simp)
    have hgtw : w21.heap.size ≤ gt := by omega
    clear hgt ho22 hg22 hR20 k20 hf21 HKQ HSQ hw20
    have hB22 : BoR w22 gt (fun j => decide (j < 0) && T j) N := hB22.like fun j _ => by simp
    go_wp2
    go_loopw [17, 18] (fun v i wr => ∃ k : Nat, k ≤ N ∧ i = .int .i64 k ∧ v = .int .i64 (nth T k : Nat) ∧ BoR wr gt (fun j => decide (j < k) && T j) N ∧ Fr [] w21 wr) (fun _ i _ => N - (intOf i).toNat)
    case atStart => exact ⟨0, Nat.zero_le _, rfl, rfl, hB22, hf22⟩
    case round =>
     obtain ⟨k, hk, rfl, rfl, hB, hf⟩ := hrel
     clear hB22 hf22
     have hw := hw21.trans hf
     by_cases hlt : k < N
     rotate_left 1
     ·have hkN : k = N := by omega
      have kk := hf.cell k21 (by simp)
      have HKK := Lib.hid hkN
      have hlt' : ¬ ((k : Int) < N) := by omega
      rw [← hkN] at HCQ
      clear hkN hB
      go_wp2_with fail
      refine (HCQ.out _ _ _ _ _ (HRQ.out _ hf)).mono ?_
      rintro e w23 ⟨rfl, hf23⟩
      go_wp2_with fail
      refine (HLV.out _ (hw.trans hf23)).mono ?_
      rintro e w24 ⟨rfl, hf24⟩
      go_wp2
      go_ret
      exact ⟨rfl, hfW.trans ((hw.trans hf23).trans hf24)⟩
     obtain ⟨pl, hpl, hpa, hpb, hTk⟩ := HTT.out k hlt
     have HPL := Lib.hid hpl
     have q23 := hw.cell q0 (by simp)
     go_wp2_with fail
     refine (HWH.out _ k pl hw HPL.out).mono ?_
     rintro e w23 ⟨rfl, hf23⟩
     obtain ⟨gs, hgs⟩ : ∃ g, g = w23.heap.size := ⟨_, rfl⟩
     go_upto_region 28 with fail
     rw [← hgs]
     refine wp_hide (fun M28 hM28 => ?_)
     have hf24 : Fr [] w23 M28 := by rw [hM28]; exact (Fr.refl _ _).alloc _
     have hBs : Blk M28 gs 36 (spotC pl.2) := by rw [hM28]; exact Blk.new _ _ _ _ hgs
     have hf28 := (hf.trans hf23).trans hf24
     have hw28 := hw21.trans hf28
     have hB28 : BoR M28 gt (fun j => decide (j < k) && T j) N := Blk.fr hB (hf23.trans hf24) (by simp)
     have s2 : M28.cell? ⟨gs, 2, none⟩ = some (.int .i64 pl.2.parent) := hBs.cell 2 rfl
     have hkl : k < kp.length := by have := HKN.out; omega
     have p28 := hw28.cell p2 (by simp)
     obtain ⟨b1, o1, bk, rfl, hxk, hck⟩ := (HKW.out M28 hw28).1.at_ hkl
     have hbk : kp[k]?.getD false = bk := by rw [hxk.out]; rfl
     rw [hbk] at hTk
     have b0 : M28.cell? ⟨gt, k, none⟩ = some (.bool (decide (k < k) && T k)) := hB28.at_ hlt
     have z0 := Blk.frozen hB28 k
     have hge : ¬ (k : Int) ≤ pl.2.parent := by omega
     have hgl := Blk.lt hB28
     generalize hpp : pl.2.parent = pr at *
     clear hM28 hgs hBs hf24 hf23 hB hbk hxk hf hw q23 hpl hpp
     have HB28 := Lib.hid hB28
     rcases bk with _ | _
     case' false =>
      have HT := Lib.hid (show T k = false by rw [hTk]; rfl)
      clear hTk hB28
      go_upto_region 31 with fail
      have hB28 := HB28.out
      refine wp_hide (fun M31 hM31 => ?_)
      have hB31 : BoR M31 gt (fun j => decide (j < k + 1) && T j) N := by
       rw [hM31]
       refine hB28.put hlt false (fun j hj => ?_)
       by_cases hjk : j = k
       ·rw [if_pos hjk, hjk, HT.out]; simp
       ·rw [if_neg hjk]
        congr 1
        rw [Bool.eq_iff_iff]
        simp
        omega
      have hf31 : Fr [] w21 M31 := hf28.trans2 (by rw [hM31]; exact fr_put M28 gt k (.bool false)) (fun b hb => .inr (by simp at hb; omega))
      clear hM31
      obtain ⟨tv, htv⟩ : ∃ v : Bool, v = false := ⟨_, rfl⟩
      have HV : Hid (T k = tv) := Lib.hid (by rw [htv]; exact HT.out)
      clear htv hB28
     case' true =>
      rcases Classical.em (pr < 0) with hng | hng
     case' true.inl =>
      have HT := Lib.hid (show T k = true by rw [hTk]; unfold alv; rw [decide_eq_true hng]; rfl)
      clear hTk hB28
      go_upto_region 31 with fail
      have hB28 := HB28.out
      refine wp_hide (fun M31 hM31 => ?_)
      have hB31 : BoR M31 gt (fun j => decide (j < k + 1) && T j) N := by
       rw [hM31]
       refine hB28.put hlt true (fun j hj => ?_)
       by_cases hjk : j = k
       ·rw [if_pos hjk, hjk, HT.out]; simp
       ·rw [if_neg hjk]
        congr 1
        rw [Bool.eq_iff_iff]
        simp
        omega
      have hf31 : Fr [] w21 M31 := hf28.trans2 (by rw [hM31]; exact fr_put M28 gt k (.bool true)) (fun b hb => .inr (by simp at hb; omega))
      clear hM31
      obtain ⟨tv, htv⟩ : ∃ v : Bool, v = true := ⟨_, rfl⟩
      have HV : Hid (T k = tv) := Lib.hid (by rw [htv]; exact HT.out)
      clear htv hB28
     case' true.inr =>
      obtain ⟨pn, rfl⟩ : ∃ pn : Nat, pr = pn := ⟨pr.toNat, by omega⟩
      have hT2 : T k = T pn := by rw [hTk]; unfold alv; rw [decide_eq_false hng]; simp
      have hpnk : pn < k := by omega
      have t0 : M28.cell? ⟨gt, pn, none⟩ = some (.bool (decide (pn < k) && T pn)) := hB28.at_ (by omega)
      rw [decide_eq_true hpnk, Bool.true_and, ← hT2] at t0
      obtain ⟨tv, htv⟩ : ∃ v, T k = v := ⟨_, rfl⟩
      rw [htv] at t0
      have HT := Lib.hid htv
      have HV := HT
      have hpN : pn < N := by omega
      clear hTk hB28 hT2 htv
      go_upto_region 31 with fail
      have hB28 := HB28.out
      refine wp_hide (fun M31 hM31 => ?_)
      have hB31 : BoR M31 gt (fun j => decide (j < k + 1) && T j) N := by
       rw [hM31]
       refine hB28.put hlt tv (fun j hj => ?_)
       by_cases hjk : j = k
       ·rw [if_pos hjk, hjk, HT.out]; simp
       ·rw [if_neg hjk]
        congr 1
        rw [Bool.eq_iff_iff]
        simp
        omega
      have hf31 : Fr [] w21 M31 := hf28.trans2 (by rw [hM31]; exact fr_put M28 gt k (.bool tv)) (fun b hb => .inr (by simp at hb; omega))
      clear hM31
      clear hB28 t0 hpnk hpN
     all_goals (
      have hw31 := hw21.trans hf31
      clear hf28 hw28 p28 b0 z0 s2 hge hgl hkl HB28
      have t31 : M31.cell? ⟨gt, k, none⟩ = some (.bool (decide (k < k + 1) && T k)) := hB31.at_ hlt
      rw [decide_eq_true (Nat.lt_succ_self k), Bool.true_and, HV.out] at t31
      have HB31 := Lib.hid hB31
      clear hB31
      cases tv
      ·have hn1 : nth T (k + 1) = nth T k := by rw [nth, if_neg (by rw [HV.out]; simp), Nat.add_zero]
       have HN1 := Lib.hid hn1
       clear hn1 HRL HAL HAQ HAA HWH
       go_wp2
       go_roundw
       case rel => exact ⟨k + 1, by omega, by go_num, by rw [HN1.out], HB31.out, hf31⟩
       case measure => simp [intOf]; omega
      ·have hn1 : nth T (k + 1) = nth T k + 1 := by rw [nth, if_pos HV.out]
       have hnk := HNT.out k
       have HN1 := Lib.hid hn1
       obtain ⟨a, b, ha, hb, hka, hta, hla⟩ := HAA.out k hlt HV.out
       have HA := Lib.hid ha
       have HBB := Lib.hid hb
       have HKA := Lib.hid hka
       have HTA := Lib.hid hta
       have HLA := Lib.hid hla
       clear ha hb hka hta hla hn1
       have q31 := hw31.cell q0 (by simp)
       have k31 := hf31.cell k21 (by simp)
       go_wp2_with fail
       refine (HAL.out _ k a hw31 HA.out).mono ?_
       rintro e w32 ⟨h32, rfl, hf32⟩
       have hf33 := hf31.trans hf32
       have k32 := hf33.cell k21 (by simp)
       obtain ⟨ga, hga⟩ : ∃ g, g = w32.heap.size := ⟨_, rfl⟩
       go_upto_region 33 with fail
       rw [← hga]
       refine wp_hide (fun M33 hM33 => ?_)
       have hfa : Fr [] w32 M33 := by rw [hM33]; exact (Fr.refl _ _).alloc _
       have hBa : Blk M33 ga 46 (ndCells a.1 h32) := by rw [hM33]; exact Blk.new _ _ _ _ hga
       have hma := hf32.trans hfa
       have hfa := hf31.trans hma
       have k33 := hfa.cell k21 (by simp)
       clear hM33 hga q31 k31 k32 hf33
       go_wp2_with fail
       refine (HAQ.out _ _ _ _ _ (nth T k) b HBB.out (HRQ.out _ hfa)).mono ?_
       rintro e w34 ⟨h34, rfl, hf34⟩
       have hBa34 := hBa.fr hf34 (by simp)
       have hmb := hma.trans hf34
       obtain ⟨gc, hgc⟩ : ∃ g, g = w34.heap.size := ⟨_, rfl⟩
       go_upto_region 34 with fail
       rw [← hgc]
       refine wp_hide (fun M35 hM35 => ?_)
       have hfc : Fr [] w34 M35 := by rw [hM35]; exact (Fr.refl _ _).alloc _
       have hBc : Blk M35 gc 46 (ndCells b.1 h34) := by rw [hM35]; exact Blk.new _ _ _ _ hgc
       have hBa35 := hBa34.fr hfc (by simp)
       have hmc := hmb.trans hfc
       have hf35 := hf31.trans hmc
       have hB35 := Lib.hid (Blk.fr HB31.out hmc (by simp))
       clear hM35 hgc hBa hBa34 k33 hma hmb hfa
       have a0 : M35.cell? ⟨ga, 0, none⟩ = some (.int .u8 a.1.kind) := hBa35.cell 0 rfl
       have a1 : M35.cell? ⟨ga, 1, none⟩ = some (.string a.1.text) := hBa35.cell 1 rfl
       have a3 : M35.cell? ⟨ga, 3, none⟩ = some (.slice h32.As a.1.subs.length h32.cs) := hBa35.cell 3 rfl
       have b0 : M35.cell? ⟨gc, 0, none⟩ = some (.int .u8 a.1.kind) := by rw [HKA.out]; exact hBc.cell 0 rfl
       have b1 : M35.cell? ⟨gc, 1, none⟩ = some (.string a.1.text) := by rw [HTA.out]; exact hBc.cell 1 rfl
       have b3 : M35.cell? ⟨gc, 3, none⟩ = some (.slice h34.As a.1.subs.length h34.cs) := by rw [HLA.out]; exact hBc.cell 3 rfl
       clear hBa35 hBc hmc
       have hnk2 : nth T k ≤ 1024 := by omega
       go_wp2_with fail
       go_roundw
       case rel => exact ⟨k + 1, by omega, by go_num, by rw [HN1.out]; go_num, hB35.out, hf35⟩
       case measure => simp [intOf]; omega))
end

end Go.Proofs.YtchldahkcpbgcaaGreatDoor
