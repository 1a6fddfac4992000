/- Texts of this seat, one behind the other: Runs. -/
import Derived.Test.YtjpbmbonccenfaaDoort220
import Derived.Test.YtjpbmbonccenfaaDoort213
import Derived.Test.YtjpbmbonccenfaaDoort23
/- The examples of the chapter: runs. -/
namespace Go.Proofs.YtjpbmbonccenfaaDoor
open Go.RowKit
set_option linter.unusedVariables false

theorem lawints_any (A B : Option Addr) (ca cb : Nat) (xs ys : List Int) (w : World) (ha : Rd w (.int .i64) A ca xs) (hb : Rd w (.int .i64) B cb ys) :
    Calls Tryd.prog 18 #[.slice A xs.length ca, .slice B ys.length cb] w (RetQ w (.bool (decide (xs = ys)))) := by
  go_enter Tryd.func18, Tryd.ntmps18
  go_wp2_with fail
  refine (Ints_any A B ca cb xs ys w ha hb).mono ?_
  rintro e w1 ⟨rfl, n1, rfl⟩
  go_wp2
  go_ret
  exact ⟨rfl, n1, rfl⟩

/-- A slice that has just been written out. -/
theorem Rd.lit {α : Type} (w : World) (t : TypeId) (enc : α → Value) (xs : List α) (H : Nat) (hH : H = w.heap.size) (hm : xs.length ≤ 1000) : Rd (w.alloc (.cells (xs.map enc).toArray t)) enc (some ⟨H, 0, none⟩) xs.length xs :=
  Rd.of_blk (Blk.new w t _ H hH) (by unfold maxLen; omega)
theorem Rp.lit (w : World) (t : TypeId) (ps : List Pk) (H : Nat) (hH : H = w.heap.size) (hm : ps.length ≤ 1000) : Rp (w.alloc (.cells (flat ps).toArray t)) (some ⟨H, 0, none⟩) ps.length ps := by
  refine ⟨Nat.le_refl _, by unfold maxLen; omega, fun _ => ⟨H, 0, rfl, fun k p hp => ?_⟩⟩
  have hb := Blk.new w t (flat ps).toArray H hH
  have h0 := flat_at0 ps k
  have h1 := flat_at1 ps k
  rw [hp] at h0 h1
  exact ⟨hb.cell (0 + k * 2) (by simpa using h0), hb.cell (0 + k * 2 + 1) (by simpa using h1)⟩

theorem ex_bisect : bisect 5 1 [1, 2, 3] = (⟨false, [3], [], []⟩, 0) := by decide
theorem ex_normal : normal [(0, 2), (0, 1), (1, 3)] = ([(0, 3), (1, 3)], 0) := by decide
theorem ex_preempt : preemptions [(0, 1), (1, 2), (0, 4)] = ([0], 0) := by decide
theorem ex_needs : checkNeeds [[], [0], [1]] = 0 := by decide
theorem ex_set : isSet 3 [2] = true := by decide
theorem ex_closed {bs : List Bool} (hl : bs.length = 3) (h : IsCl [[], [0], [1]] [2] (inB bs)) : pickedOf bs = [0, 1, 2] := by
  have h2 := h.base 2 (by simp)
  have h1 := h.step 2 h2 1 (by simp [needsOf])
  have h0 := h.step 1 h1 0 (by simp [needsOf])
  match bs, hl with
  | [a, b, c], _ =>
    simp [inB] at h0 h1 h2
    subst h0 h1 h2
    decide

set_option maxRecDepth 100000 in
set_option maxHeartbeats 3200000 in
theorem runs_any (w : World) : Calls Tryd.prog 34 #[] w (RetV w (.bool true)) := by
  go_enter Tryd.func34, Tryd.ntmps34
  go_wp2_with fail
  have r1 := Rd.lit w 39 (.int .u8) [1, 2, 3] _ rfl (by simp)
  refine (bisect_any 5 1 _ _ [1, 2, 3] _ r1).mono ?_
  rw [ex_bisect]
  rintro e w1 ⟨v1, rfl, hf1, A1, a1, B1, b1, C1, c1, rfl, ⟨hq1, _⟩, ⟨hq2, _⟩, hq3, _⟩
  have hF1 : Fr [] w w1 := Fr.trans (Fr.alloc (Fr.refl _ _) _) hf1
  clear r1
  go_wp2_with fail
  have r2 : Rp ((w1.alloc (.cells #[.bool false, .slice A1 1 a1, .slice B1 0 b1, .slice C1 0 c1] 34)).alloc (.cells #[.int .i64 0, .int .i64 2, .int .i64 0, .int .i64 1, .int .i64 1, .int .i64 3] 115)) (some ⟨w1.heap.size + 1, 0, none⟩) 3 [(0, 2), (0, 1), (1, 3)] :=
    Rp.lit (w1.alloc (.cells #[.bool false, .slice A1 1 a1, .slice B1 0 b1, .slice C1 0 c1] 34)) 115 [(0, 2), (0, 1), (1, 3)] _ (by simp) (by simp)
  have hQ2 := (Blk.new w1 34 #[.bool false, .slice A1 1 a1, .slice B1 0 b1, .slice C1 0 c1] _ rfl).alloc (.cells #[.int .i64 0, .int .i64 2, .int .i64 0, .int .i64 1, .int .i64 1, .int .i64 3] 115)
  refine (Normal_any _ _ [(0, 2), (0, 1), (1, 3)] _ r2 (by simp)).mono ?_
  rw [ex_normal]
  rintro e w2 ⟨A2, c2, rfl, hf2, ho2⟩
  have hF2 : Fr [] w w2 := Fr.trans ((hF1.alloc _).alloc _) hf2
  have hQ2 := hQ2.fr hf2 (by simp)
  have hfa := hf2
  clear r2 hf2
  go_wp2_with fail
  refine (Preemptions_any (some ⟨w2.heap.size, 0, none⟩) 3 [(0, 1), (1, 2), (0, 4)] _ (Rp.lit w2 115 [(0, 1), (1, 2), (0, 4)] _ rfl (by simp)) (by simp)).mono ?_
  rw [ex_preempt]
  rintro e w3 ⟨A3, c3, rfl, hf3, ho3⟩
  have hF3 : Fr [] w w3 := Fr.trans (hF2.alloc _) hf3
  have hQ3 := (hQ2.alloc (.cells #[.int .i64 0, .int .i64 1, .int .i64 1, .int .i64 2, .int .i64 0, .int .i64 4] 115)).fr hf3 (by simp)
  have h23 : Fr [] w2 w3 := Fr.trans ((Fr.refl _ _).alloc _) hf3
  clear hf3 hQ2
  go_wp2_with fail
  have r4 : Rss ((((w3.alloc (.cells #[.int .i64 0] 3)).alloc (.cells #[.int .i64 1] 3)).alloc (.cells #[.slice none 0 0, .slice (some ⟨w3.heap.size, 0, none⟩) 1 1, .slice (some ⟨w3.heap.size + 1, 0, none⟩) 1 1] 22)).alloc (.cells #[.int .i64 2] 3)) (some ⟨w3.heap.size + 1 + 1, 0, none⟩) 3 [[], [0], [1]] := by
    have k0 := (((Rd.lit w3 3 (.int .i64) [0] _ rfl (by simp)).alloc (.cells #[.int .i64 1] 3)).alloc (.cells #[.slice none 0 0, .slice (some ⟨w3.heap.size, 0, none⟩) 1 1, .slice (some ⟨w3.heap.size + 1, 0, none⟩) 1 1] 22)).alloc (.cells #[.int .i64 2] 3)
    have k1 := ((Rd.lit (w3.alloc (.cells #[.int .i64 0] 3)) 3 (.int .i64) [1] (w3.heap.size + 1) (by simp) (by simp)).alloc (.cells #[.slice none 0 0, .slice (some ⟨w3.heap.size, 0, none⟩) 1 1, .slice (some ⟨w3.heap.size + 1, 0, none⟩) 1 1] 22)).alloc (.cells #[.int .i64 2] 3)
    have kb := (Blk.new ((w3.alloc (.cells #[.int .i64 0] 3)).alloc (.cells #[.int .i64 1] 3)) 22 #[.slice none 0 0, .slice (some ⟨w3.heap.size, 0, none⟩) 1 1, .slice (some ⟨w3.heap.size + 1, 0, none⟩) 1 1] (w3.heap.size + 1 + 1) (by simp)).alloc (.cells #[.int .i64 2] 3)
    refine ⟨by simp, by unfold maxLen; omega, fun _ => ⟨_, 0, rfl, fun k l hl => ?_⟩⟩
    match k, hl with
    | 0, hl => simp at hl; subst hl; exact ⟨none, 0, kb.cell 0 rfl, Rd.nil_ _ _⟩
    | 1, hl => simp at hl; subst hl; exact ⟨_, 1, kb.cell 1 rfl, k0⟩
    | 2, hl => simp at hl; subst hl; exact ⟨_, 1, kb.cell 2 rfl, k1⟩
  have r5 := Rd.lit (((w3.alloc (.cells #[.int .i64 0] 3)).alloc (.cells #[.int .i64 1] 3)).alloc (.cells #[.slice none 0 0, .slice (some ⟨w3.heap.size, 0, none⟩) 1 1, .slice (some ⟨w3.heap.size + 1, 0, none⟩) 1 1] 22)) 3 (.int .i64) [2] (w3.heap.size + 1 + 1 + 1) (by simp) (by simp)
  have hf3 : Fr [] w3 ((((w3.alloc (.cells #[.int .i64 0] 3)).alloc (.cells #[.int .i64 1] 3)).alloc (.cells #[.slice none 0 0, .slice (some ⟨w3.heap.size, 0, none⟩) 1 1, .slice (some ⟨w3.heap.size + 1, 0, none⟩) 1 1] 22)).alloc (.cells #[.int .i64 2] 3)) := (by repeat (first | exact Fr.refl _ _ | assumption | apply Fr.drewN | apply Fr.drew | apply Fr.alloc | refine Fr.setCell ?_ (by simp) _))
  refine (Close_any _ _ 3 1 [[], [0], [1]] [2] _ r4 r5).mono ?_
  rintro e w4 (⟨hx, _⟩ | ⟨_, hx, _⟩ | ⟨_, _, bs, hbs, hcl, A4, c4, rfl, hf4, ho4⟩)
  · exact absurd ex_needs hx
  · rw [show isSet (([[], [0], [1]] : List (List Int)).length : Int) [2] = true from ex_set] at hx; cases hx
  rw [ex_closed hbs hcl] at ho4 ⊢
  clear hbs hcl r4 r5
  have h34 := hf3.trans hf4
  have hF4 := hF3.trans h34
  have hQ4 := hQ3.fr h34 (by simp)
  have qc0 := hQ4.cell 0 rfl
  have qc1 := hQ4.cell 1 rfl
  have qc2 := hQ4.cell 2 rfl
  have qc3 := hQ4.cell 3 rfl
  have qd0 := hQ4.frozen 0
  have qd1 := hQ4.frozen 1
  have qd2 := hQ4.frozen 2
  have qd3 := hQ4.frozen 3
  have x1 : Rd w4 (.int .i64) A1 a1 [3] := hq1.fr0 ((Fr.trans ((((Fr.refl [] w1).alloc _).alloc _)) hfa).trans (h23.trans h34))
  have x2 : Rp w4 A2 c2 [(0, 3), (1, 3)] := (Rp.of_own ho2).2.fr0 (h23.trans h34)
  have x3 : Rd w4 (.int .i64) A3 c3 [0] := (Rd.of_own ho3).2.fr0 h34
  have x4 : Rd w4 (.int .i64) A4 c4 [0, 1, 2] := (Rd.of_own ho4).2
  clear ho2 ho3 ho4 hq1 hq2 hq3 hQ3 hf3 hf4 h34 hfa h23 hF3 hF2 hF1 bs hf1
  go_wp2_with fail
  refine (lawints_any A1 _ a1 1 [3] [3] _ (x1.fr0 (by repeat (first | exact Fr.refl _ _ | assumption | apply Fr.drewN | apply Fr.drew | apply Fr.alloc | refine Fr.setCell ?_ (by simp) _))) (Rd.lit w4 3 (.int .i64) [3] _ rfl (by simp))).mono ?_
  rintro e w5 ⟨rfl, n5, rfl⟩
  go_wp2_with fail
  refine (SamePicks_any A2 _ c2 2 [(0, 3), (1, 3)] [(0, 3), (1, 3)] _ (x2.fr0 (by repeat (first | exact Fr.refl _ _ | assumption | apply Fr.drewN | apply Fr.drew | apply Fr.alloc | refine Fr.setCell ?_ (by simp) _))) ((Rp.lit (w4.alloc (.cells #[.int .i64 3] 3)) 115 [(0, 3), (1, 3)] _ (by simp) (by simp)).fr0 (by repeat (first | exact Fr.refl _ _ | assumption | apply Fr.drewN | apply Fr.drew | apply Fr.alloc | refine Fr.setCell ?_ (by simp) _)))).mono ?_
  rintro e w6 ⟨rfl, n6, rfl⟩
  go_wp2_with fail
  refine (lawints_any A3 _ c3 1 [0] [0] _ (x3.fr0 (by repeat (first | exact Fr.refl _ _ | assumption | apply Fr.drewN | apply Fr.drew | apply Fr.alloc | refine Fr.setCell ?_ (by simp) _))) ((Rd.lit ((w4.alloc (.cells #[.int .i64 3] 3)).alloc (.cells #[.int .i64 0, .int .i64 3, .int .i64 1, .int .i64 3] 115)) 3 (.int .i64) [0] _ (by simp) (by simp)).fr0 (by repeat (first | exact Fr.refl _ _ | assumption | apply Fr.drewN | apply Fr.drew | apply Fr.alloc | refine Fr.setCell ?_ (by simp) _)))).mono ?_
  rintro e w7 ⟨rfl, n7, rfl⟩
  go_wp2_with fail
  refine (lawints_any A4 _ c4 3 [0, 1, 2] [0, 1, 2] _ (x4.fr0 (by repeat (first | exact Fr.refl _ _ | assumption | apply Fr.drewN | apply Fr.drew | apply Fr.alloc | refine Fr.setCell ?_ (by simp) _))) ((Rd.lit (((w4.alloc (.cells #[.int .i64 3] 3)).alloc (.cells #[.int .i64 0, .int .i64 3, .int .i64 1, .int .i64 3] 115)).alloc (.cells #[.int .i64 0] 3)) 3 (.int .i64) [0, 1, 2] _ (by simp) (by simp)).fr0 (by repeat (first | exact Fr.refl _ _ | assumption | apply Fr.drewN | apply Fr.drew | apply Fr.alloc | refine Fr.setCell ?_ (by simp) _)))).mono ?_
  rintro e w8 ⟨rfl, n8, rfl⟩
  go_wp2
  go_ret
  exact ⟨by simp, hF4.trans (by repeat (first | exact Fr.refl _ _ | assumption | apply Fr.drewN | apply Fr.drew | apply Fr.alloc | refine Fr.setCell ?_ (by simp) _))⟩
end Go.Proofs.YtjpbmbonccenfaaDoor
