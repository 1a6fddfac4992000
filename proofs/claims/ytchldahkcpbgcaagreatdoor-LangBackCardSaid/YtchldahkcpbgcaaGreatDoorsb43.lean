/- Texts of this seat, one behind the other: LAgM, LBack. -/
import Derived.Test.YtchldahkcpbgcaaGreatDoorsb36
import Derived.Test.YtchldahkcpbgcaaGreatDoorsb35
import Derived.Test.YtchldahkcpbgcaaGreatDoorsb42
namespace Go.Proofs.YtchldahkcpbgcaaGreatDoor
set_option linter.unusedVariables false

/- LangAgain: what the parser and the printer say of each other: plain. -/
section
open Go.RowKit
set_option linter.unusedSimpArgs false
theorem topL_of {l : List Nd} (h : ∀ x ∈ l, x.top) : topL l := by
 induction l with
 | nil => trivial
 | cons x l ih => exact ⟨h x (by simp), ih fun y hy => h y (List.mem_cons_of_mem _ hy)⟩
theorem LN.top {S : Nat → Prop} {w : World} : ∀ {n : Nat} {A : Option Addr} {c : Nat} {l : List Nd}, LN S n w A c l → topL l
  | 0, _, _, _, h => absurd h id
  | n + 1, A, c, l, h => by
    refine topL_of fun x hx => ?_
    obtain ⟨k, hk, rfl⟩ := List.getElem_of_mem hx
    obtain ⟨b, off, y, hd, _, hy, _, hn, _⟩ := h.at_ hk
    have e := hy.out
    rw [List.getElem?_eq_getElem hk] at e
    injection e with e
    rw [e, Nd.top_eq]
    exact ⟨hn.ok.2.2, hn.subs.top, hn.body.top, hn.els.top⟩
theorem RF.top {S : Nat → Prop} {n : Nat} {w : World} {A : Option Addr} {c : Nat} {fs : List Fu} (h : RF S n w A c fs) : topF fs := by
 intro f hf
 obtain ⟨k, hk, rfl⟩ := List.getElem_of_mem hf
 obtain ⟨b, off, y, Ap, cp, Ab, cb, _, hy, _, _, _, _, hbd, _⟩ := h.at_ hk
 have e := hy.out
 rw [List.getElem?_eq_getElem hk] at e
 injection e with e
 rw [e]
 exact hbd.top
theorem shape_fu {fs : List Fu} (h : shapeP fs = 0) : ∀ f ∈ fs, fuB f = true := by
 unfold shapeP at h
 split at h
 ·exact absurd h (by decide)
 ·split at h
  ·exact absurd h (by decide)
  ·split at h
   ·rename_i h1
    exact fun f hf => List.all_eq_true.1 h1 f hf
   ·exact absurd h (by decide)
theorem print_parse {fs : List Fu} (h : shapeP fs = 0) (ht : topF fs) : ((printO fs).2 = 3 ∧ (printO fs).1 = bt []) ∨ ((printO fs).2 = 0 ∧ parseO (printO fs).1 = (fs, 0, 0) ∧ (printO fs).1.size ≤ 65536) := by
 unfold printO
 rw [if_neg (by rw [h]; decide)]
 split
 ·exact .inl ⟨rfl, rfl⟩
 ·rename_i hl
  refine .inr ⟨rfl, ?_, ?_⟩
  ·obtain ⟨ws, h1, h2⟩ := prog_round (shape_fu h) ht
   unfold parseO
   simp only
   rw [if_neg (by rw [← sb_len, sb_bt]; omega), h1]
   simp only
   rw [h2]
   simp only
   rw [if_pos h]
  ·rw [← sb_len, sb_bt]
   omega
end

/- LangBack: the walk. -/
section
open Go.RowKit Go.Sort
set_option linter.unusedSimpArgs false
theorem print_bad {fs : List Fu} (h : shapeP fs ≠ 0) : (printO fs).1 = bt [] ∧ (printO fs).2 = shapeP fs := by
 unfold printO
 rw [if_pos h]
 exact ⟨rfl, rfl⟩
theorem print_cases {fs : List Fu} (ht : topF fs) : ((printO fs).2 ≠ 0 ∧ (printO fs).1 = bt []) ∨ ((printO fs).2 = 0 ∧ parseO (printO fs).1 = (fs, 0, 0) ∧ (printO fs).1.size ≤ 65536) := by
 by_cases h : shapeP fs = 0
 ·rcases print_parse h ht with ⟨h1, h2⟩ | h1
  ·exact .inl ⟨by rw [h1]; decide, h2⟩
  ·exact .inr h1
 ·obtain ⟨h1, h2⟩ := print_bad h
  exact .inl ⟨by rw [h2]; exact h, h1⟩
set_option maxRecDepth 20000 in
set_option maxHeartbeats 3200000 in
theorem LBack_any {S : Nat → Prop} {n : Nat} {A : Option Addr} {c : Nat} {l : List Fu} {w : World} (hl : RF S n w A c l) (ht : tmF l) (hfl : l.length ≤ 140737488351232) (hT : Tabs w) :
  Calls Tryz.prog 11 #[.agg #[.slice A l.length c]] w (RetV w (.bool true)) := by
 obtain ⟨W, hW⟩ : ∃ W, W = w.alloc (.cells #[.slice A l.length c] 25) := ⟨_, rfl⟩
 have hfW : Fr [] w W := by rw [hW]; exact ((Fr.refl _ _).alloc _)
 have hB1 : Blk W w.heap.size 25 #[.slice A l.length c] := by rw [hW]; exact (Blk.new _ _ _ _ rfl)
 have q0 : W.cell? ⟨w.heap.size, 0, none⟩ = some (.slice A l.length c) := hB1.cell 0 rfl
 have HW := Lib.hid hW.symm
 have HLV : Hid (∀ V, Fr [] W V → Calls Tryz.prog 16 #[] V (RetV V (.bool true))) := Lib.hid fun V h => lives_t (hT.fr (hfW.trans h))
 have HG1 : Hid (∀ V, Fr [] W V → Calls Tryz.prog 24 #[.agg #[.slice A l.length c]] V (RetV V (.bool (greatP l)))) := Lib.hid fun V h => Great_any (hl.fr0 (hfW.trans h)) ht hfl
 have hpc := print_cases hl.top
 obtain ⟨g1, hg1⟩ : ∃ g, greatP l = g := ⟨_, rfl⟩
 rw [hg1] at HG1
 have HGP := Lib.hid hg1
 have HTM := Lib.hid ht
 have HPAR : Hid (∀ V t, Fr [] W V → t.size ≤ 65536 → parseO t = (l, 0, 0) → Calls Tryz.prog 17 #[.string t] V (fun en w' => ∃ A c n, en = .returned (.tuple #[.agg #[.slice A l.length c], .int .i64 0, .int .i64 0]) ∧ RF (Bel V) n w' A c l ∧ Fr [] V w')) := Lib.hid fun V t hf hs hp => by
  have := Parse_any t V (by omega) (hT.fr (hfW.trans hf)).err
  rw [hp] at this
  exact this
 have HPOW : Hid (∀ V, Fr [] W V → Lib.TabIs Tryz.prog V "internal/strconv.uint64pow10" .u64 Lib.pow10Tab) := Lib.hid fun V hf => (hT.fr (hfW.trans hf)).pow
 clear hW hg1 ht hT hfl
 go_enter Tryz.func11, Tryz.ntmps11
 go_upto_region 1 with fail
 rw [HW.out]
 go_wp2_with fail
 refine (HG1.out _ (Fr.refl _ _)).mono ?_
 rintro e w1 ⟨rfl, hf1⟩
 cases g1
 rotate_left 1
 ·go_wp2_with fail
  refine (HLV.out _ hf1).mono ?_
  rintro e w2 ⟨rfl, hf2⟩
  go_wp2
  go_ret
  exact ⟨rfl, (hfW.trans hf1).trans hf2⟩
 have hsm := small_of HGP.out
 have hcn : cntF l ≤ 1000000000 := by omega
 have htx := tmF_tx HTM.out
 have HPR : Hid (∀ V A c n S, Fr [] W V → RF S n V A c l → Calls Tryz.prog 26 #[.agg #[.slice A l.length c]] V (RetV V (.tuple #[.string (printO l).1, .int .i64 (printO l).2]))) := Lib.hid fun V A c n S hf hR => Print_any A c l S n V hR hcn htx (HPOW.out V hf)
 have HCK : Hid (∀ V A c n S, RF S n V A c l → Calls Tryz.prog 47 #[.agg #[.slice A l.length c]] V (RetV V (.int .i64 (checkP l)))) := Lib.hid fun V A c n S hR => Check_any A c l S n V hR hcn htx
 have hR1 := hl.fr0 (hfW.trans hf1)
 have q1 := hf1.cell q0 (by simp)
 clear hsm hcn htx HTM HGP HG1 hl q0
 generalize (printO l).1 = t at *
 generalize (printO l).2 = f at *
 go_wp2_with fail
 refine (HPR.out _ _ _ _ _ hf1 hR1).mono ?_
 rintro e w2 ⟨rfl, hf2⟩
 have hR2 := hR1.fr0 hf2
 have q2 := hf2.cell q1 (by simp)
 have hf2 := hf1.trans hf2
 rcases hpc with ⟨hne, rfl⟩ | ⟨rfl, hpt, htl⟩
 ·have ef : (f != 0) = true := by simpa using hne
  have e0 : (bt []) = ⟨#[]⟩ := rfl
  rw [e0]
  clear HPR HCK hR1 q1 HPAR hne e0 hR2 q2
  go_wp2_with fail
  refine (HLV.out _ hf2).mono ?_
  rintro e w3 ⟨rfl, hf3⟩
  go_wp2
  go_ret
  exact ⟨rfl, (hfW.trans hf2).trans hf3⟩
 have HPT := Lib.hid (HPAR.out w2 t hf2 htl hpt)
 clear hR1 q1 HPAR hpt htl
 go_wp2_with fail
 refine HPT.out.mono ?_
 rintro en w3 ⟨A', c', n', rfl, hR', hf3⟩
 obtain ⟨K, hK⟩ : ∃ K, K = w3.heap.size := ⟨_, rfl⟩
 go_upto_region 7 with fail
 rw [← hK]
 refine wp_hide (fun M hM => ?_)
 have hfM : Fr [] w3 M := by rw [hM]; exact (Fr.refl _ _).alloc _
 have hB3 : Blk M K 25 #[.slice A' l.length c'] := by rw [hM]; exact Blk.new _ _ _ _ hK
 have q4 : M.cell? ⟨w.heap.size, 0, none⟩ = some (.slice A l.length c) := (hf3.trans hfM).cell q2 (by simp)
 have p4 : M.cell? ⟨K, 0, none⟩ = some (.slice A' l.length c') := hB3.cell 0 rfl
 have hRM := hR2.fr0 (hf3.trans hfM)
 have hRM' := hR'.fr0 hfM
 have hwM := hf2.trans (hf3.trans hfM)
 clear hM hR' hR2 q2 hB3 hK HPT
 have c0 := fun d os => cell_regrown q4 d os
 have c1 := fun d os => cell_regrown p4 d os
 have k1 := fun d os => Calls.regrown_of ((show Calls Tryz.prog 25 #[.agg #[.slice A l.length c], .agg #[.slice A' l.length c']] (grow (redrawn M d) os) (RetV (grow (redrawn M d) os) (.bool true)) from by
  have := Same_any (hRM.fr0 (Fr.of_below (below_regrown M d os))) (hRM'.fr0 (Fr.of_below (below_regrown M d os)))
  rw [eqFs_self] at this
  exact this).mono fun e w' h => ⟨h.1, h.2.below⟩)
 have k2 := fun d os => Calls.regrown_of ((HCK.out _ _ _ _ _ (hRM.fr0 (Fr.of_below (below_regrown M d os)))).mono fun e w' h => ⟨h.1, h.2.below⟩)
 have k3 := fun d os => Calls.regrown_of ((HCK.out _ _ _ _ _ (hRM'.fr0 (Fr.of_below (below_regrown M d os)))).mono fun e w' h => ⟨h.1, h.2.below⟩)
 clear HCK
 generalize checkP l = ck at *
 refine wp_region_quiet_below (by kernel_rfl) (by kernel_rfl) ?_
 repeat (go_big_quiet_step (first | with_reducible exact k1 _ _ | with_reducible exact k2 _ _ | with_reducible exact k3 _ _))
 refine wpQuiet_nil ?_
 intro _ hw
 obtain ⟨⟨dq, osq⟩, hw2⟩ := hw
 subst hw2
 have hQ : Fr [] M (grow (redrawn M dq) osq) := Fr.of_below (below_regrown M dq osq)
 obtain ⟨VQ, hVQ⟩ : ∃ X, X = grow (redrawn M dq) osq := ⟨_, rfl⟩
 rw [← hVQ] at hQ ⊢
 clear hVQ dq osq
 have hwQ := hwM.trans hQ
 have hRQ := hRM'.fr0 hQ
 have p5 := hQ.cell p4 (by simp)
 clear c0 c1 k1 k2 k3 q4 p4 hRM hRM'
 go_wp2_with fail
 refine (HPR.out _ _ _ _ _ hwQ hRQ).mono ?_
 rintro en w5 ⟨rfl, hf5⟩
 go_wp2_with fail
 refine (HLV.out _ (hwQ.trans hf5)).mono ?_
 rintro en w6 ⟨rfl, hf6⟩
 go_wp2
 go_ret
 exact ⟨rfl, hfW.trans ((hwQ.trans hf5).trans hf6)⟩
end

end Go.Proofs.YtchldahkcpbgcaaGreatDoor
