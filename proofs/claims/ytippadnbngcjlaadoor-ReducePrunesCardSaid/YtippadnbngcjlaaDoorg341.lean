/- Texts of this seat, one behind the other: LPrun. -/
import Derived.Test.YtippadnbngcjlaaDoorg337
import Derived.Test.YtippadnbngcjlaaDoorg339
import Derived.Test.YtippadnbngcjlaaDoorg340
import Derived.Test.YtippadnbngcjlaaDoorg321
import Derived.Test.YtippadnbngcjlaaDoorg329
/- ReducePrunes: the walk of the law. -/
namespace Go.Proofs.YtippadnbngcjlaaDoor
open Go.RowKit
set_option linter.unusedVariables false

set_option maxRecDepth 100000 in
set_option maxHeartbeats 6400000 in
theorem LPrun_any (A AT D : Option Addr) (c cT dd : Nat) (g : List Ru) (n : Nat) (t : T) (S : Nat → Prop) (at_ : List Int) (from_ to_ : Int) (w : World) (ha : RRu w A c g) (hR : RH S n w AT cT t) (hD : Rd w (.int .i64) D dd at_) (htab : Tab w) :
    Calls Tryd.prog 5 #[.agg #[.slice A g.length c], .agg (tcells t AT cT), .slice D at_.length dd, .int .i64 from_, .int .i64 to_] w (RetV w (.bool true)) := by
  obtain ⟨L, hL⟩ := lok_exists g
  obtain ⟨W, hW⟩ : ∃ W, W = (w.alloc (.cells #[.slice A g.length c] 24)).alloc (.cells (tcells t AT cT) 27) := ⟨_, rfl⟩
  have hF : Fr [] w W := by rw [hW]; exact (by repeat (first | exact Fr.refl _ _ | assumption | apply Fr.drewN | apply Fr.drew | apply Fr.alloc | refine Fr.setCell ?_ (by simp) _))
  have hB1 : Blk W w.heap.size 24 #[.slice A g.length c] := by rw [hW]; exact (Blk.new w _ _ _ rfl).alloc _
  have hB2 : Blk W (w.heap.size + 1) 27 (tcells t AT cT) := by rw [hW]; exact Blk.new _ _ _ _ (by simp)
  have hz0 : w.heap.size + 2 ≤ W.heap.size := by rw [hW]; simp
  have q0 := hB1.cell 0 rfl
  have p0 := hB2.cell 0 rfl
  have p1 := hB2.cell 1 rfl
  have p2 := hB2.cell 2 rfl
  rw [hW] at q0 p0 p1 p2
  have HW := Lib.hid hW.symm
  clear hW
  have hDl := hD.bound
  go_enter Tryd.func5, Tryd.ntmps5
  go_wp2_with fail
  rw [HW.out]
  clear q0 p0 p1 p2
  refine (huge_any A c g n t _ S _ (ha.fr0 hF) ⟨AT, cT, rfl, hR.fr0 hF⟩).mono ?_
  rintro e w1 ⟨b, rfl, hf1, hb⟩
  have hz0 := Nat.le_trans hz0 hf1.size
  have hF := hF.trans hf1
  have hB1 := hB1.fr hf1 (by simp)
  have hB2 := hB2.fr hf1 (by simp)
  clear hf1
  rcases b with _ | _
  · have hn := hb rfl
    have hn : t.nodes ≤ 1024 := by omega
    clear hb
    by_cases h40 : at_.length ≤ 40
    · have hSp : Hid (∀ w', Fr [] w w' → Val g t → Calls Tryd.prog 44 #[.agg #[.slice A g.length c], .agg (tcells t AT cT)] w' (RetSpR g t n w')) := fun w' hf hv =>
        refSpots_any A c g n t _ S w' (ha.fr0 hf) ⟨AT, cT, rfl, hR.fr0 hf⟩ hv hn
      have q0 := hB1.cell 0 rfl
      have p0 := hB2.cell 0 rfl
      have p1 := hB2.cell 1 rfl
      have p2 := hB2.cell 2 rfl
      go_wp2_with fail
      obtain ⟨pr, hp⟩ : ∃ pr, prunOf g L t = pr := ⟨_, rfl⟩
      have HP := Lib.hid hp
      obtain ⟨ur, hu⟩ : ∃ pr, pruneOf g L t at_ = pr := ⟨_, rfl⟩
      have HU := Lib.hid hu
      obtain ⟨hr, hh⟩ : ∃ pr, hoistE g L t to_ from_ = pr := ⟨_, rfl⟩
      have HH := Lib.hid hh
      clear hp hu hh
      refine (Prunable_any A c g L n t _ S _ (ha.fr0 hF) hL ⟨AT, cT, rfl, hR.fr0 hF⟩ hn).mono ?_
      rw [HP.out]
      rintro e w2 ⟨A2, c2, rfl, hf2, ho2⟩
      have hz0 := Nat.le_trans hz0 hf2.size
      have hF := hF.trans hf2
      have hB1 := hB1.fr hf2 (by simp)
      have hB2 := hB2.fr hf2 (by simp)
      have r2 : Rd w2 (.int .i64) A2 c2 pr.1 := own_rd ho2 rfl rfl
      clear hf2 ho2 q0 p0 p1 p2
      have q0 := hB1.cell 0 rfl
      have p0 := hB2.cell 0 rfl
      have p1 := hB2.cell 1 rfl
      have p2 := hB2.cell 2 rfl
      go_wp2_with fail
      refine (refPrunable_any A c g L n t _ S _ (ha.fr0 hF) hL ⟨AT, cT, rfl, hR.fr0 hF⟩ hn (fun w' hf => hSp.out w' (hF.trans hf))).mono ?_
      rw [HP.out]
      rintro e w3 ⟨A3, c3, rfl, hf3, ho3⟩
      have hz0 := Nat.le_trans hz0 hf3.size
      have hF := hF.trans hf3
      have hB1 := hB1.fr hf3 (by simp)
      have hB2 := hB2.fr hf3 (by simp)
      have r2 := r2.fr0 hf3
      have r3 : Rd w3 (.int .i64) A3 c3 pr.1 := own_rd ho3 rfl rfl
      clear hf3 ho3 q0 p0 p1 p2
      go_wp2_with fail
      refine (lawints_any A2 A3 c2 c3 pr.1 pr.1 _ r2 r3).mono ?_
      rw [show decide (pr.1 = pr.1) = true by simp]
      rintro e w4 ⟨rfl, n4, rfl⟩
      have hF := hF.drewN n4
      have hB1 := hB1.fr ((Fr.refl [] w3).drewN n4) (by simp)
      have hB2 := hB2.fr ((Fr.refl [] w3).drewN n4) (by simp)
      obtain ⟨w4, hw4⟩ : ∃ w4, w4 = w3.drewN n4 := ⟨_, rfl⟩
      rw [← hw4] at hF hB1 hB2 ⊢
      have hz0 : w.heap.size + 2 ≤ w4.heap.size := by rw [hw4]; exact hz0
      clear hw4 r2 r3
      have q0 := hB1.cell 0 rfl
      have p0 := hB2.cell 0 rfl
      have p1 := hB2.cell 1 rfl
      have p2 := hB2.cell 2 rfl
      go_wp2_with fail
      refine (Prune_any A D c dd g L n t _ S at_ _ (ha.fr0 hF) hL ⟨AT, cT, rfl, hR.fr0 hF⟩ hn (hD.fr0 hF)).mono ?_
      rw [HU.out]
      rintro e w5 ⟨A5, c5, rfl, hf5, hX⟩
      obtain ⟨W5, hW5⟩ : ∃ W, W = w5.alloc (.cells (tcells ur.1 A5 c5) 27) := ⟨_, rfl⟩
      have hf5' : Fr [] w4 W5 := by rw [hW5]; exact hf5.alloc _
      have hX : RH (fun _ => False) (n + 1024) W5 A5 c5 ur.1 := by rw [hW5]; exact (hX.sub (S' := fun _ => False) fun _ _ h => h.elim).fr0 ((Fr.refl _ _).alloc _)
      have hBx : Blk W5 w5.heap.size 27 (tcells ur.1 A5 c5) := by rw [hW5]; exact Blk.new _ _ _ _ rfl
      obtain ⟨xb, hxb⟩ : ∃ xb, xb = w5.heap.size := ⟨_, rfl⟩
      have hxz : xb < W5.heap.size := by rw [hxb]; exact hBx.lt
      have hz5 := hf5.size
      have hxw : w.heap.size + 2 ≤ xb := by omega
      have hF := hF.trans hf5'
      have hB1 := hB1.fr hf5' (by simp)
      have hB2 := hB2.fr hf5' (by simp)
      clear q0 p0 p1 p2
      have q0 := hB1.cell 0 rfl
      have p0 := hB2.cell 0 rfl
      have p1 := hB2.cell 1 rfl
      have p2 := hB2.cell 2 rfl
      rw [hW5] at q0 p0 p1 p2
      have HW5 := Lib.hid hW5.symm
      have HXB := Lib.hid hxb.symm
      clear hW5 hf5 hf5' hz5
      go_wp2_with fail
      simp only [tcells] at HW5
      rw [HW5.out]
      clear q0 p0 p1 p2
      refine (refPrune_any A D c dd g L n t _ S at_ _ (ha.fr0 hF) hL ⟨AT, cT, rfl, hR.fr0 hF⟩ hn (hD.fr0 hF) (fun w' hf => refPrunable_any A c g L n t _ S w' (ha.fr0 (hF.trans hf)) hL ⟨AT, cT, rfl, hR.fr0 (hF.trans hf)⟩ hn (fun w'' hf' => hSp.out w'' ((hF.trans hf).trans hf')))).mono ?_
      rw [HU.out]
      rintro e w6 ⟨A6, c6, rfl, hf6, hY⟩
      obtain ⟨W6, hW6⟩ : ∃ W, W = w6.alloc (.cells (tcells ur.1 A6 c6) 27) := ⟨_, rfl⟩
      have hf6' : Fr [] W5 W6 := by rw [hW6]; exact hf6.alloc _
      have hY : RH (fun _ => False) (n + 1024) W6 A6 c6 ur.1 := by rw [hW6]; exact (hY.sub (S' := fun _ => False) fun _ _ h => h.elim).fr0 ((Fr.refl _ _).alloc _)
      have hBy : Blk W6 w6.heap.size 27 (tcells ur.1 A6 c6) := by rw [hW6]; exact Blk.new _ _ _ _ rfl
      obtain ⟨yb, hyb⟩ : ∃ yb, yb = w6.heap.size := ⟨_, rfl⟩
      have hyz : yb < W6.heap.size := by rw [hyb]; exact hBy.lt
      have hz6 := hf6.size
      have hxy : xb < yb := by omega
      have hX := hX.fr0 hf6'
      have hBx := hBx.fr hf6' (by simp)
      have hF := hF.trans hf6'
      have hB1 := hB1.fr hf6' (by simp)
      have hB2 := hB2.fr hf6' (by simp)
      have HYB := Lib.hid hyb.symm
      rw [HXB.out] at hBx
      rw [HYB.out] at hBy
      have x0 : W6.cell? ⟨xb, 0, none⟩ = some (.int .i64 ur.1.kind) := hBx.cell 0 rfl
      have x1 : W6.cell? ⟨xb, 1, none⟩ = some (.string ur.1.text) := hBx.cell 1 rfl
      have x2 : W6.cell? ⟨xb, 2, none⟩ = some (.slice A5 ur.1.slots.length c5) := hBx.cell 2 rfl
      have y0 : W6.cell? ⟨yb, 0, none⟩ = some (.int .i64 ur.1.kind) := hBy.cell 0 rfl
      have y1 : W6.cell? ⟨yb, 1, none⟩ = some (.string ur.1.text) := hBy.cell 1 rfl
      have y2 : W6.cell? ⟨yb, 2, none⟩ = some (.slice A6 ur.1.slots.length c6) := hBy.cell 2 rfl
      rw [hW6] at x0 x1 x2
      rw [hW6, hyb] at y0 y1 y2
      have HW6 := Lib.hid hW6.symm
      rw [HXB.out]
      clear hW6 hf6 hf6' hz6 hyb hxb
      go_wp2_with fail
      simp only [tcells] at HW6
      rw [HW6.out, HYB.out]
      clear x0 x1 x2 y0 y1 y2
      refine (SameTree_any (n + 1024) ur.1 _ _ _ _ W6 ⟨A5, c5, rfl, hX⟩ ⟨A6, c6, rfl, hY⟩).mono ?_
      rintro e w7 ⟨rfl, hf7⟩
      have hz7 := hf7.size
      have hF := hF.trans hf7
      have hB1 := hB1.fr hf7 (by simp)
      have hB2 := hB2.fr hf7 (by simp)
      have hBx := hBx.fr hf7 (by simp)
      have hBy := hBy.fr hf7 (by simp)
      clear hf7 hX hY HW6 HW5
      have q0 := hB1.cell 0 rfl
      have p0 := hB2.cell 0 rfl
      have p1 := hB2.cell 1 rfl
      have p2 := hB2.cell 2 rfl
      go_wp2_with fail
      refine (Hoist_any A c g L n t _ S to_ from_ _ (ha.fr0 hF) hL ⟨AT, cT, rfl, hR.fr0 hF⟩ hn).mono ?_
      rw [HH.out]
      rintro e w8 ⟨A8, c8, rfl, hf8, hX⟩
      have hBx8 := hBx.fr hf8 (by simp)
      have hBy8 := hBy.fr hf8 (by simp)
      obtain ⟨W8, hW8⟩ : ∃ W, W = ((w8.setCell ⟨xb, 0, none⟩ (.int .i64 hr.1.kind)).setCell ⟨xb, 1, none⟩ (.string hr.1.text)).setCell ⟨xb, 2, none⟩ (.slice A8 hr.1.slots.length c8) := ⟨_, rfl⟩
      have hf8' : Fr [xb] w7 W8 := by rw [hW8]; exact fr_three (hf8.mono (by simp)) (.inl (by simp)) _ _ _
      have hF8 : Fr [] w W8 := hF.trans2 hf8' (List.forall_mem_singleton.2 (.inr (show w.heap.size ≤ xb by omega)))
      have hf88 : Fr [xb] w8 W8 := by rw [hW8]; exact fr_three (Fr.refl _ _) (.inl (by simp)) _ _ _
      have hX : RH (fun k => k < w7.heap.size) (n + n) W8 A8 c8 hr.1 := hX.fr hf88 (List.forall_mem_singleton.2 (show xb < w7.heap.size by omega))
      have hBxn : Blk W8 xb 27 #[.int .i64 hr.1.kind, .string hr.1.text, .slice A8 hr.1.slots.length c8] := by rw [hW8]; exact hBx8.three _ _ _
      have hByn : Blk W8 yb 27 (tcells ur.1 A6 c6) := hBy8.fr hf88 (by simp; omega)
      have hB1 := hB1.fr hf8' (by simp; omega)
      have hB2 := hB2.fr hf8' (by simp; omega)
      have hz8 := hf8'.size
      have x0 : w8.cell? ⟨xb, 0, none⟩ = some (.int .i64 ur.1.kind) := hBx8.cell 0 rfl
      have x1 : w8.cell? ⟨xb, 1, none⟩ = some (.string ur.1.text) := hBx8.cell 1 rfl
      have x2 : w8.cell? ⟨xb, 2, none⟩ = some (.slice A5 ur.1.slots.length c5) := hBx8.cell 2 rfl
      have v0 := hBx8.frozen 0
      have v1 := hBx8.frozen 1
      have v2 := hBx8.frozen 2
      clear q0 p0 p1 p2
      have q0 := hB1.cell 0 rfl
      have p0 : W8.cell? ⟨w.heap.size + 1, 0, none⟩ = some (.int .i64 t.kind) := hB2.cell 0 rfl
      have p1 : W8.cell? ⟨w.heap.size + 1, 1, none⟩ = some (.string t.text) := hB2.cell 1 rfl
      have p2 : W8.cell? ⟨w.heap.size + 1, 2, none⟩ = some (.slice AT t.slots.length cT) := hB2.cell 2 rfl
      rw [hW8] at q0 p0 p1 p2
      have HW8 := Lib.hid hW8.symm
      clear hW8
      go_wp2_with fail
      rw [HW8.out]
      clear HW8 q0 p0 p1 p2 x0 x1 x2 v0 v1 v2 hBx8 hBy8
      refine (refHoist_any A c g L n t _ S to_ from_ _ (ha.fr0 hF8) hL ⟨AT, cT, rfl, hR.fr0 hF8⟩ hn (fun w' hf => hSp.out w' (hF8.trans hf))).mono ?_
      rw [HH.out]
      rintro e w9 ⟨A9, c9, rfl, hf9, hY⟩
      have hBx9 := hBxn.fr hf9 (by simp)
      have hBy9 := hByn.fr hf9 (by simp)
      obtain ⟨W9, hW9⟩ : ∃ W, W = ((w9.setCell ⟨yb, 0, none⟩ (.int .i64 hr.1.kind)).setCell ⟨yb, 1, none⟩ (.string hr.1.text)).setCell ⟨yb, 2, none⟩ (.slice A9 hr.1.slots.length c9) := ⟨_, rfl⟩
      have hf9' : Fr [yb] W8 W9 := by rw [hW9]; exact fr_three (hf9.mono (by simp)) (.inl (by simp)) _ _ _
      have hF9 : Fr [] w W9 := hF8.trans2 hf9' (List.forall_mem_singleton.2 (.inr (show w.heap.size ≤ yb by omega)))
      have hf99 : Fr [yb] w9 W9 := by rw [hW9]; exact fr_three (Fr.refl _ _) (.inl (by simp)) _ _ _
      have hY : RH (fun k => k < W8.heap.size) (n + n) W9 A9 c9 hr.1 := hY.fr hf99 (List.forall_mem_singleton.2 (show yb < W8.heap.size by omega))
      have hX : RH (fun k => k < w7.heap.size) (n + n) W9 A8 c8 hr.1 := hX.fr hf9' (List.forall_mem_singleton.2 (show yb < w7.heap.size by omega))
      have hByo : Blk W9 yb 27 #[.int .i64 hr.1.kind, .string hr.1.text, .slice A9 hr.1.slots.length c9] := by rw [hW9]; exact hBy9.three _ _ _
      have hBxo := hBxn.fr hf9' (by simp; omega)
      have y0 : w9.cell? ⟨yb, 0, none⟩ = some (.int .i64 ur.1.kind) := hBy9.cell 0 rfl
      have y1 : w9.cell? ⟨yb, 1, none⟩ = some (.string ur.1.text) := hBy9.cell 1 rfl
      have y2 : w9.cell? ⟨yb, 2, none⟩ = some (.slice A6 ur.1.slots.length c6) := hBy9.cell 2 rfl
      have v0 := hBy9.frozen 0
      have v1 := hBy9.frozen 1
      have v2 := hBy9.frozen 2
      have x0 : W9.cell? ⟨xb, 0, none⟩ = some (.int .i64 hr.1.kind) := hBxo.cell 0 rfl
      have x1 : W9.cell? ⟨xb, 1, none⟩ = some (.string hr.1.text) := hBxo.cell 1 rfl
      have x2 : W9.cell? ⟨xb, 2, none⟩ = some (.slice A8 hr.1.slots.length c8) := hBxo.cell 2 rfl
      have z0 : W9.cell? ⟨yb, 0, none⟩ = some (.int .i64 hr.1.kind) := hByo.cell 0 rfl
      have z1 : W9.cell? ⟨yb, 1, none⟩ = some (.string hr.1.text) := hByo.cell 1 rfl
      have z2 : W9.cell? ⟨yb, 2, none⟩ = some (.slice A9 hr.1.slots.length c9) := hByo.cell 2 rfl
      rw [hW9] at x0 x1 x2 z0 z1 z2
      have HW9 := Lib.hid hW9.symm
      clear hW9
      go_wp2_with fail
      rw [HW9.out]
      clear HW9 x0 x1 x2 z0 z1 z2 y0 y1 y2 v0 v1 v2
      refine (SameTree_any (n + n) hr.1 _ _ _ _ W9 ⟨A8, c8, rfl, hX⟩ ⟨A9, c9, rfl, hY⟩).mono ?_
      rintro e wa ⟨rfl, hfa⟩
      have hF := hF9.trans hfa
      go_wp2_with fail
      refine (grows_any _ (htab.fr hF)).mono ?_
      rintro e wb ⟨rfl, hfb⟩
      go_wp2_with fail
      go_ret
      exact ⟨rfl, hF.trans hfb⟩
    · go_wp2_with fail
      refine (grows_any _ (htab.fr hF)).mono ?_
      rintro e w2 ⟨rfl, hf2⟩
      go_wp2_with fail
      go_ret
      exact ⟨rfl, hF.trans hf2⟩
  · go_wp2_with fail
    refine (grows_any _ (htab.fr hF)).mono ?_
    rintro e w2 ⟨rfl, hf2⟩
    go_wp2_with fail
    go_ret
    exact ⟨rfl, hF.trans hf2⟩
end Go.Proofs.YtippadnbngcjlaaDoor
