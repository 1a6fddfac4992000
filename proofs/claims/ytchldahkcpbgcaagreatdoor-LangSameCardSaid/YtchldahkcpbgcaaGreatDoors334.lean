/- Texts of this seat, one behind the other: RSam, RSam2. -/
import Derived.Test.YtchldahkcpbgcaaGreatDoors332
import Derived.Lib.QuietBelow
import Derived.Test.YtchldahkcpbgcaaGreatDoors333
namespace Go.Proofs.YtchldahkcpbgcaaGreatDoor
set_option linter.unusedVariables false

/- sameStrings, SameNodes, Same of the reference (printed by gen/rsam.py). -/
section
open Go.RowKit Go.Sort
set_option linter.unusedSimpArgs false
set_option maxRecDepth 20000 in
set_option maxHeartbeats 1600000 in
theorem refsameStrings_any {S S' : Nat → Prop} (A B : Option Addr) (c d : Nat) (l m : List ByteArray) (w : World) (hl : RdS S w .string A c l) (hm : RdS S' w .string B d m) :
  Calls Tryz.prog 72 #[.slice A l.length c, .slice B m.length d] w (RetV w (.bool (decide (l = m)))) := by
 have hl1 := hl.1.bound
 have hm1 := hm.1.bound
 go_enter Tryz.func72, Tryz.ntmps72
 by_cases hlen : l.length = m.length
 ·rw [← hlen]
  have HLEN := Lib.hid hlen
  clear hlen hm1
  go_wp2_with fail
  go_loopw [5] (fun i wr => ∃ k : Nat, k ≤ l.length ∧ i = .int .i64 k ∧ Hid (l.take k = m.take k) ∧ ∃ n, wr = w.drewN n) (fun i _ => l.length - (intOf i).toNat)
  case atStart => exact ⟨0, Nat.zero_le _, rfl, Lib.hid rfl, 0, rfl⟩
  case round =>
   obtain ⟨k, hk, rfl, HE, n, rfl⟩ := hrel
   by_cases hlt : k < l.length
   ·obtain ⟨kb, off, x, rfl, hx, hcx⟩ := hl.1.at_ hlt
    obtain ⟨kb', off', y, rfl, hy, hcy⟩ := hm.1.at_ (k := k) (by have := HLEN.out; omega)
    by_cases hxy : x = y
    ·have HS := Lib.hid (eq_step HE.out hx hy hxy)
     subst hxy
     go_wp2
     go_quiet (fail)
     go_wp2_with fail
     go_roundw
     case rel => exact ⟨k + 1, by omega, by go_num, HS, _, rfl⟩
     case measure => simp [intOf]; omega
    ·have HN := Lib.hid (ne_step hx hy hxy)
     have hq := str_ne hxy
     go_wp2
     go_quiet (fail)
     go_wp2_with fail
     go_ret
     exact ⟨ret_bool (by simp [HN.out]), Fr.drewN (Fr.drewN (Fr.refl _ _) _) _⟩
   ·have HS : Hid (l = m) := Lib.hid (by have h := HE.out; rwa [List.take_of_length_le (by omega), List.take_of_length_le (by have := HLEN.out; omega)] at h)
    go_wp2
    go_ret
    exact ⟨ret_bool (by simp [HS.out]), Fr.drewN (Fr.refl _ _) _⟩
 ·have HN : Hid (l ≠ m) := Lib.hid (fun h => hlen (by rw [h]))
  go_wp2
  go_ret
  exact ⟨ret_bool (by simp [HN.out]), Fr.refl _ _⟩
def RSameP (n : Nat) : Prop := ∀ (S S' : Nat → Prop) (m : Nat) (A B : Option Addr) (c d : Nat) (l l' : List Nd) (w : World), LN S n w A c l → LN S' m w B d l' →
 Calls Tryz.prog 38 #[.slice A l.length c, .slice B l'.length d] w (RetV w (.bool (eqL l l')))
set_option maxRecDepth 20000 in
set_option maxHeartbeats 3200000 in
theorem refSameNodes_step (n : Nat) (ih : RSameP n) : RSameP (n + 1) := by
 intro S S' m A B c d l l' w hl hm
 have hl1 := hl.len
 have hm1 := hm.len
 obtain ⟨m, rfl⟩ : ∃ q, m = q + 1 := by
  cases m with
  | zero => exact absurd hm id
  | succ q => exact ⟨q, rfl⟩
 have HL := Lib.hid hl
 have HM := Lib.hid hm
 have IH := Lib.hid ih
 clear hl hm ih
 go_enter Tryz.func38, Tryz.ntmps38
 by_cases hlen : l.length = l'.length
 ·rw [← hlen]
  have HLEN := Lib.hid hlen
  clear hlen hm1
  go_wp2_with fail
  go_loopw [5] (fun i wr => ∃ k : Nat, k ≤ l.length ∧ i = .int .i64 k ∧ Hid (l.take k = l'.take k) ∧ Fr [] w wr) (fun i _ => l.length - (intOf i).toNat)
  case atStart => exact ⟨0, Nat.zero_le _, rfl, Lib.hid rfl, Fr.refl _ _⟩
  case round =>
   obtain ⟨k, hk, rfl, HT, hf⟩ := hrel
   by_cases hlt : k < l.length
   ·obtain ⟨kb, off, x, hd, rfl, hx, hN, hH, hkb⟩ := (HL.out.fr0 hf).at_ hlt
    obtain ⟨kb', off', y, hd', rfl, hy, hN', hH', hkb'⟩ := (HM.out.fr0 hf).at_ (k := k) (by have := HLEN.out; omega)
    obtain ⟨c0, c1, c2, c3, c4, c5, c6⟩ := hN
    obtain ⟨e0, e1, e2, e3, e4, e5, e6⟩ := hN'
    obtain ⟨V2, rfl⟩ : ∃ V2, V2 = wr := ⟨wr, rfl⟩
    have cP := fun d os => Calls.regrown_of ((refsameStrings_any _ _ _ _ _ _ _ (hH.params.fr0 (Fr.of_below (below_regrown V2 d os))) (hH'.params.fr0 (Fr.of_below (below_regrown V2 d os)))).mono fun e w' h => ⟨h.1, h.2.below⟩)
    have cS := fun d os => Calls.regrown_of ((IH.out S S' m _ _ _ _ _ _ _ (hH.subs.fr0 (Fr.of_below (below_regrown V2 d os))) (hH'.subs.fr0 (Fr.of_below (below_regrown V2 d os)))).mono fun e w' h => ⟨h.1, h.2.below⟩)
    have cB := fun d os => Calls.regrown_of ((IH.out S S' m _ _ _ _ _ _ _ (hH.body.fr0 (Fr.of_below (below_regrown V2 d os))) (hH'.body.fr0 (Fr.of_below (below_regrown V2 d os)))).mono fun e w' h => ⟨h.1, h.2.below⟩)
    have cE := fun d os => Calls.regrown_of ((IH.out S S' m _ _ _ _ _ _ _ (hH.els.fr0 (Fr.of_below (below_regrown V2 d os))) (hH'.els.fr0 (Fr.of_below (below_regrown V2 d os)))).mono fun e w' h => ⟨h.1, h.2.below⟩)
    have c0 := fun d os => cell_regrown c0 d os
    have c1 := fun d os => cell_regrown c1 d os
    have c2 := fun d os => cell_regrown c2 d os
    have c3 := fun d os => cell_regrown c3 d os
    have c4 := fun d os => cell_regrown c4 d os
    have c5 := fun d os => cell_regrown c5 d os
    have c6 := fun d os => cell_regrown c6 d os
    have e0 := fun d os => cell_regrown e0 d os
    have e1 := fun d os => cell_regrown e1 d os
    have e2 := fun d os => cell_regrown e2 d os
    have e3 := fun d os => cell_regrown e3 d os
    have e4 := fun d os => cell_regrown e4 d os
    have e5 := fun d os => cell_regrown e5 d os
    have e6 := fun d os => cell_regrown e6 d os
    have HX := Lib.hid (x.eqB_eq y)
    have HXY := Lib.hid (x.eqB_iff y)
    clear hH hH'
    obtain ⟨xk, hxk⟩ : ∃ q, x.kind = q := ⟨_, rfl⟩
    obtain ⟨yk, hyk⟩ : ∃ q, y.kind = q := ⟨_, rfl⟩
    obtain ⟨xt, hxt⟩ : ∃ q, x.text = q := ⟨_, rfl⟩
    obtain ⟨yt, hyt⟩ : ∃ q, y.text = q := ⟨_, rfl⟩
    obtain ⟨xn, hxn⟩ : ∃ q, x.num = q := ⟨_, rfl⟩
    obtain ⟨yn, hyn⟩ : ∃ q, y.num = q := ⟨_, rfl⟩
    obtain ⟨bp, hbp⟩ : ∃ q, decide (x.params = y.params) = q := ⟨_, rfl⟩
    obtain ⟨bs, hbs⟩ : ∃ q, eqL x.subs y.subs = q := ⟨_, rfl⟩
    obtain ⟨bb, hbb⟩ : ∃ q, eqL x.body y.body = q := ⟨_, rfl⟩
    obtain ⟨be, hbe⟩ : ∃ q, eqL x.els y.els = q := ⟨_, rfl⟩
    rw [hxk, hyk, hxt, hyt, hxn, hyn, hbp, hbs, hbb, hbe] at HX
    rw [hbp] at cP
    rw [hbs] at cS
    rw [hbb] at cB
    rw [hbe] at cE
    rw [hxk] at c0
    rw [hyk] at e0
    rw [hxt] at c1
    rw [hyt] at e1
    rw [hxn] at c2
    rw [hyn] at e2
    have HF : Hid (x.eqB y = false → l ≠ l') := Lib.hid fun h => ne_step hx hy fun h2 => by rw [HXY.out.2 h2] at h; cases h
    have HTT : Hid (x.eqB y = true → l.take (k + 1) = l'.take (k + 1)) := Lib.hid fun h => eq_step HT.out hx hy (HXY.out.1 h)
    clear hxk hyk hxt hyt hxn hyn hbp hbs hbb hbe HXY
    by_cases hne : xk = yk
    rotate_left 1
    ·have q1 : (xk != yk) = true := by simpa using hne
     have HK : Hid (decide (xk = yk) = false) := Lib.hid (by simpa using hne)
     clear hne
     have HN : Hid (l ≠ l') := Lib.hid (HF.out (by rw [HX.out]; rw [HK.out]; simp))
     go_wp2_with fail
     try simp only [List.append_eq, List.cons_append, List.nil_append]
     refine wp_region_quiet_below (by kernel_rfl) (Eq.trans (by kernel_rfl) lexSameNodes) ?_
     repeat (go_big_quiet_step (first | with_reducible exact cP _ _ | with_reducible exact cS _ _ | with_reducible exact cB _ _ | with_reducible exact cE _ _))
     refine wpQuiet_nil ?_
     intro _ hw
     obtain ⟨⟨dq, osq⟩, hw2⟩ := hw
     subst hw2
     have hQ : Fr [] V2 (grow (redrawn V2 dq) osq) := Fr.of_below (below_regrown V2 dq osq)
     obtain ⟨VQ, hVQ⟩ : ∃ X, X = grow (redrawn V2 dq) osq := ⟨_, rfl⟩
     rw [← hVQ] at hQ ⊢
     clear hVQ dq osq
     go_wp2
     go_ret
     exact ⟨ret_bool (eqL_ne HN.out).symm, hf.trans hQ⟩
    subst hne
    by_cases hne : xt = yt
    rotate_left 1
    ·have q1 : (xt.toList == yt.toList) = false := str_ne hne
     have HK : Hid (decide (xt = yt) = false) := Lib.hid (by simpa using hne)
     clear hne
     have HN : Hid (l ≠ l') := Lib.hid (HF.out (by rw [HX.out]; rw [HK.out]; simp))
     go_wp2_with fail
     try simp only [List.append_eq, List.cons_append, List.nil_append]
     refine wp_region_quiet_below (by kernel_rfl) (Eq.trans (by kernel_rfl) lexSameNodes) ?_
     repeat (go_big_quiet_step (first | with_reducible exact cP _ _ | with_reducible exact cS _ _ | with_reducible exact cB _ _ | with_reducible exact cE _ _))
     refine wpQuiet_nil ?_
     intro _ hw
     obtain ⟨⟨dq, osq⟩, hw2⟩ := hw
     subst hw2
     have hQ : Fr [] V2 (grow (redrawn V2 dq) osq) := Fr.of_below (below_regrown V2 dq osq)
     obtain ⟨VQ, hVQ⟩ : ∃ X, X = grow (redrawn V2 dq) osq := ⟨_, rfl⟩
     rw [← hVQ] at hQ ⊢
     clear hVQ dq osq
     go_wp2
     go_ret
     exact ⟨ret_bool (eqL_ne HN.out).symm, hf.trans hQ⟩
    subst hne
    by_cases hne : xn = yn
    rotate_left 1
    ·have q1 : (xn != yn) = true := by simpa using hne
     have HK : Hid (decide (xn = yn) = false) := Lib.hid (by simpa using hne)
     clear hne
     have HN : Hid (l ≠ l') := Lib.hid (HF.out (by rw [HX.out]; rw [HK.out]; simp))
     go_wp2_with fail
     try simp only [List.append_eq, List.cons_append, List.nil_append]
     refine wp_region_quiet_below (by kernel_rfl) (Eq.trans (by kernel_rfl) lexSameNodes) ?_
     repeat (go_big_quiet_step (first | with_reducible exact cP _ _ | with_reducible exact cS _ _ | with_reducible exact cB _ _ | with_reducible exact cE _ _))
     refine wpQuiet_nil ?_
     intro _ hw
     obtain ⟨⟨dq, osq⟩, hw2⟩ := hw
     subst hw2
     have hQ : Fr [] V2 (grow (redrawn V2 dq) osq) := Fr.of_below (below_regrown V2 dq osq)
     obtain ⟨VQ, hVQ⟩ : ∃ X, X = grow (redrawn V2 dq) osq := ⟨_, rfl⟩
     rw [← hVQ] at hQ ⊢
     clear hVQ dq osq
     go_wp2
     go_ret
     exact ⟨ret_bool (eqL_ne HN.out).symm, hf.trans hQ⟩
    subst hne
    cases bp
    ·have HN : Hid (l ≠ l') := Lib.hid (HF.out (by rw [HX.out]; simp))
     go_wp2_with fail
     try simp only [List.append_eq, List.cons_append, List.nil_append]
     refine wp_region_quiet_below (by kernel_rfl) (Eq.trans (by kernel_rfl) lexSameNodes) ?_
     repeat (go_big_quiet_step (first | with_reducible exact cP _ _ | with_reducible exact cS _ _ | with_reducible exact cB _ _ | with_reducible exact cE _ _))
     refine wpQuiet_nil ?_
     intro _ hw
     obtain ⟨⟨dq, osq⟩, hw2⟩ := hw
     subst hw2
     have hQ : Fr [] V2 (grow (redrawn V2 dq) osq) := Fr.of_below (below_regrown V2 dq osq)
     obtain ⟨VQ, hVQ⟩ : ∃ X, X = grow (redrawn V2 dq) osq := ⟨_, rfl⟩
     rw [← hVQ] at hQ ⊢
     clear hVQ dq osq
     go_wp2
     go_ret
     exact ⟨ret_bool (eqL_ne HN.out).symm, hf.trans hQ⟩
    cases bs
    ·have HN : Hid (l ≠ l') := Lib.hid (HF.out (by rw [HX.out]; simp))
     go_wp2_with fail
     try simp only [List.append_eq, List.cons_append, List.nil_append]
     refine wp_region_quiet_below (by kernel_rfl) (Eq.trans (by kernel_rfl) lexSameNodes) ?_
     repeat (go_big_quiet_step (first | with_reducible exact cP _ _ | with_reducible exact cS _ _ | with_reducible exact cB _ _ | with_reducible exact cE _ _))
     refine wpQuiet_nil ?_
     intro _ hw
     obtain ⟨⟨dq, osq⟩, hw2⟩ := hw
     subst hw2
     have hQ : Fr [] V2 (grow (redrawn V2 dq) osq) := Fr.of_below (below_regrown V2 dq osq)
     obtain ⟨VQ, hVQ⟩ : ∃ X, X = grow (redrawn V2 dq) osq := ⟨_, rfl⟩
     rw [← hVQ] at hQ ⊢
     clear hVQ dq osq
     go_wp2
     go_ret
     exact ⟨ret_bool (eqL_ne HN.out).symm, hf.trans hQ⟩
    cases bb
    ·have HN : Hid (l ≠ l') := Lib.hid (HF.out (by rw [HX.out]; simp))
     go_wp2_with fail
     try simp only [List.append_eq, List.cons_append, List.nil_append]
     refine wp_region_quiet_below (by kernel_rfl) (Eq.trans (by kernel_rfl) lexSameNodes) ?_
     repeat (go_big_quiet_step (first | with_reducible exact cP _ _ | with_reducible exact cS _ _ | with_reducible exact cB _ _ | with_reducible exact cE _ _))
     refine wpQuiet_nil ?_
     intro _ hw
     obtain ⟨⟨dq, osq⟩, hw2⟩ := hw
     subst hw2
     have hQ : Fr [] V2 (grow (redrawn V2 dq) osq) := Fr.of_below (below_regrown V2 dq osq)
     obtain ⟨VQ, hVQ⟩ : ∃ X, X = grow (redrawn V2 dq) osq := ⟨_, rfl⟩
     rw [← hVQ] at hQ ⊢
     clear hVQ dq osq
     go_wp2
     go_ret
     exact ⟨ret_bool (eqL_ne HN.out).symm, hf.trans hQ⟩
    cases be
    ·have HN : Hid (l ≠ l') := Lib.hid (HF.out (by rw [HX.out]; simp))
     go_wp2_with fail
     try simp only [List.append_eq, List.cons_append, List.nil_append]
     refine wp_region_quiet_below (by kernel_rfl) (Eq.trans (by kernel_rfl) lexSameNodes) ?_
     repeat (go_big_quiet_step (first | with_reducible exact cP _ _ | with_reducible exact cS _ _ | with_reducible exact cB _ _ | with_reducible exact cE _ _))
     refine wpQuiet_nil ?_
     intro _ hw
     obtain ⟨⟨dq, osq⟩, hw2⟩ := hw
     subst hw2
     have hQ : Fr [] V2 (grow (redrawn V2 dq) osq) := Fr.of_below (below_regrown V2 dq osq)
     obtain ⟨VQ, hVQ⟩ : ∃ X, X = grow (redrawn V2 dq) osq := ⟨_, rfl⟩
     rw [← hVQ] at hQ ⊢
     clear hVQ dq osq
     go_wp2
     go_ret
     exact ⟨ret_bool (eqL_ne HN.out).symm, hf.trans hQ⟩
    have HS := Lib.hid (HTT.out (by rw [HX.out]; simp))
    go_wp2_with fail
    try simp only [List.append_eq, List.cons_append, List.nil_append]
    refine wp_region_quiet_below (by kernel_rfl) (Eq.trans (by kernel_rfl) lexSameNodes) ?_
    repeat (go_big_quiet_step (first | with_reducible exact cP _ _ | with_reducible exact cS _ _ | with_reducible exact cB _ _ | with_reducible exact cE _ _))
    refine wpQuiet_nil ?_
    intro _ hw
    obtain ⟨⟨dq, osq⟩, hw2⟩ := hw
    subst hw2
    have hQ : Fr [] V2 (grow (redrawn V2 dq) osq) := Fr.of_below (below_regrown V2 dq osq)
    obtain ⟨VQ, hVQ⟩ : ∃ X, X = grow (redrawn V2 dq) osq := ⟨_, rfl⟩
    rw [← hVQ] at hQ ⊢
    clear hVQ dq osq
    go_wp2
    go_roundw
    case rel => exact ⟨k + 1, by omega, by go_num, HS, hf.trans hQ⟩
    case measure => simp [intOf]; omega
   ·have HS : Hid (l = l') := Lib.hid (by have h := HT.out; rwa [List.take_of_length_le (by omega), List.take_of_length_le (by have := HLEN.out; omega)] at h)
    go_wp2
    go_ret
    exact ⟨ret_bool (by rw [HS.out, eqL_self]), hf⟩
 ·have HN := Lib.hid (eqL_len hlen)
  go_wp2
  go_ret
  exact ⟨ret_bool HN.out.symm, Fr.refl _ _⟩
theorem refSameNodes_all (n : Nat) : RSameP n := by
 induction n with
 | zero => intro S S' m A B c d l l' w hl; exact absurd hl id
 | succ n ih => exact refSameNodes_step n ih
end

/- Same of the reference (printed by gen/rsam2.py). -/
section
open Go.RowKit Go.Sort
set_option linter.unusedSimpArgs false
theorem refSameNodes_any {S S' : Nat → Prop} {n m : Nat} {A B : Option Addr} {c d : Nat} {l l' : List Nd} {w : World} (hl : LN S n w A c l) (hm : LN S' m w B d l') :
  Calls Tryz.prog 38 #[.slice A l.length c, .slice B l'.length d] w (RetV w (.bool (eqL l l'))) := refSameNodes_all n S S' m A B c d l l' w hl hm
set_option maxRecDepth 20000 in
set_option maxHeartbeats 3200000 in
theorem refSame_any {S S' : Nat → Prop} {n m : Nat} {A B : Option Addr} {c d : Nat} {l l' : List Fu} {w : World} (hl : RF S n w A c l) (hm : RF S' m w B d l') :
  Calls Tryz.prog 19 #[.agg #[.slice A l.length c], .agg #[.slice B l'.length d]] w (RetV w (.bool (eqFs l l'))) := by
 have hl1 := hl.bound
 have hm1 := hm.bound
 obtain ⟨W, hW⟩ : ∃ W, W = (w.alloc (.cells #[.slice A l.length c] 25)).alloc (.cells #[.slice B l'.length d] 25) := ⟨_, rfl⟩
 have hfW : Fr [] w W := by rw [hW]; exact ((Fr.refl _ _).alloc _).alloc _
 have hB1 : Blk W w.heap.size 25 #[.slice A l.length c] := by rw [hW]; exact (Blk.new _ _ _ _ rfl).alloc _
 have hB2 : Blk W (w.heap.size + 1) 25 #[.slice B l'.length d] := by rw [hW]; exact Blk.new _ _ _ _ (by simp)
 have HW := Lib.hid hW.symm
 have HL := Lib.hid (hl.fr0 hfW)
 have HM := Lib.hid (hm.fr0 hfW)
 clear hW hl hm
 have q0 : W.cell? ⟨w.heap.size, 0, none⟩ = some (.slice A l.length c) := hB1.cell 0 rfl
 have p0 : W.cell? ⟨w.heap.size + 1, 0, none⟩ = some (.slice B l'.length d) := hB2.cell 0 rfl
 go_enter Tryz.func19, Tryz.ntmps19
 go_upto_region 1 with fail
 rw [HW.out]
 by_cases hlen : l.length = l'.length
 ·rw [← hlen] at p0
  have HLEN := Lib.hid hlen
  rw [← hlen] at hB2
  clear hlen hm1
  go_wp2_with fail
  go_loopw [5] (fun i wr => ∃ k : Nat, k ≤ l.length ∧ i = .int .i64 k ∧ Hid (l.take k = l'.take k) ∧ Fr [] W wr) (fun i _ => l.length - (intOf i).toNat)
  case atStart => exact ⟨0, Nat.zero_le _, rfl, Lib.hid rfl, Fr.refl _ _⟩
  case round =>
   obtain ⟨k, hk, rfl, HT, hf⟩ := hrel
   have r0 : wr.cell? ⟨w.heap.size, 0, none⟩ = some (.slice A l.length c) := hf.cell q0 (by simp)
   have s0 : wr.cell? ⟨w.heap.size + 1, 0, none⟩ = some (.slice B l.length d) := hf.cell p0 (by simp)
   by_cases hlt : k < l.length
   ·obtain ⟨kb, off, x, Ap, cp, Ab, cb, rfl, hx, c0, c1, c2, hp, hb, hkb⟩ := (HL.out.fr0 hf).at_ hlt
    obtain ⟨kb', off', y, Bp, dp, Bb, db, rfl, hy, e0, e1, e2, hp', hb', hkb'⟩ := (HM.out.fr0 hf).at_ (k := k) (by have := HLEN.out; omega)
    obtain ⟨V2, rfl⟩ : ∃ V2, V2 = wr := ⟨wr, rfl⟩
    have cP := fun d os => Calls.regrown_of ((refsameStrings_any _ _ _ _ _ _ _ (hp.fr0 (Fr.of_below (below_regrown V2 d os))) (hp'.fr0 (Fr.of_below (below_regrown V2 d os)))).mono fun e w' h => ⟨h.1, h.2.below⟩)
    have cB := fun d os => Calls.regrown_of ((refSameNodes_any (hb.fr0 (Fr.of_below (below_regrown V2 d os))) (hb'.fr0 (Fr.of_below (below_regrown V2 d os)))).mono fun e w' h => ⟨h.1, h.2.below⟩)
    have r0 := fun d os => cell_regrown r0 d os
    have s0 := fun d os => cell_regrown s0 d os
    have c0 := fun d os => cell_regrown c0 d os
    have c1 := fun d os => cell_regrown c1 d os
    have c2 := fun d os => cell_regrown c2 d os
    have e0 := fun d os => cell_regrown e0 d os
    have e1 := fun d os => cell_regrown e1 d os
    have e2 := fun d os => cell_regrown e2 d os
    have HX : Hid (x.eqB y = (decide (x.name = y.name) && (decide (x.params = y.params) && eqL x.body y.body))) := Lib.hid rfl
    have HXY := Lib.hid (x.eqB_iff y)
    clear hp hp' hb hb'
    obtain ⟨xt, hxt⟩ : ∃ q, x.name = q := ⟨_, rfl⟩
    obtain ⟨yt, hyt⟩ : ∃ q, y.name = q := ⟨_, rfl⟩
    obtain ⟨bp, hbp⟩ : ∃ q, decide (x.params = y.params) = q := ⟨_, rfl⟩
    obtain ⟨bb, hbb⟩ : ∃ q, eqL x.body y.body = q := ⟨_, rfl⟩
    rw [hxt, hyt, hbp, hbb] at HX
    rw [hbp] at cP
    rw [hbb] at cB
    rw [hxt] at c0
    rw [hyt] at e0
    have HF : Hid (x.eqB y = false → l ≠ l') := Lib.hid fun h => ne_step hx hy fun h2 => by rw [HXY.out.2 h2] at h; cases h
    have HTT : Hid (x.eqB y = true → l.take (k + 1) = l'.take (k + 1)) := Lib.hid fun h => eq_step HT.out hx hy (HXY.out.1 h)
    clear hxt hyt hbp hbb HXY
    by_cases hne : xt = yt
    rotate_left 1
    ·have q1 : (xt.toList == yt.toList) = false := str_ne hne
     have HK : Hid (decide (xt = yt) = false) := Lib.hid (by simpa using hne)
     clear hne
     have HN : Hid (l ≠ l') := Lib.hid (HF.out (by rw [HX.out]; rw [HK.out]; simp))
     go_wp2_with fail
     try simp only [List.append_eq, List.cons_append, List.nil_append]
     refine wp_region_quiet_below (by kernel_rfl) (Eq.trans (by kernel_rfl) lexSameF) ?_
     repeat (go_big_quiet_step (first | with_reducible exact cP _ _ | with_reducible exact cB _ _))
     refine wpQuiet_nil ?_
     intro _ hw
     obtain ⟨⟨dq, osq⟩, hw2⟩ := hw
     subst hw2
     have hQ : Fr [] V2 (grow (redrawn V2 dq) osq) := Fr.of_below (below_regrown V2 dq osq)
     obtain ⟨VQ, hVQ⟩ : ∃ X, X = grow (redrawn V2 dq) osq := ⟨_, rfl⟩
     rw [← hVQ] at hQ ⊢
     clear hVQ dq osq
     go_wp2
     go_ret
     exact ⟨ret_bool (eqFs_ne HN.out).symm, hfW.trans (hf.trans hQ)⟩
    subst hne
    cases bp
    ·have HN : Hid (l ≠ l') := Lib.hid (HF.out (by rw [HX.out]; simp))
     go_wp2_with fail
     try simp only [List.append_eq, List.cons_append, List.nil_append]
     refine wp_region_quiet_below (by kernel_rfl) (Eq.trans (by kernel_rfl) lexSameF) ?_
     repeat (go_big_quiet_step (first | with_reducible exact cP _ _ | with_reducible exact cB _ _))
     refine wpQuiet_nil ?_
     intro _ hw
     obtain ⟨⟨dq, osq⟩, hw2⟩ := hw
     subst hw2
     have hQ : Fr [] V2 (grow (redrawn V2 dq) osq) := Fr.of_below (below_regrown V2 dq osq)
     obtain ⟨VQ, hVQ⟩ : ∃ X, X = grow (redrawn V2 dq) osq := ⟨_, rfl⟩
     rw [← hVQ] at hQ ⊢
     clear hVQ dq osq
     go_wp2
     go_ret
     exact ⟨ret_bool (eqFs_ne HN.out).symm, hfW.trans (hf.trans hQ)⟩
    cases bb
    ·have HN : Hid (l ≠ l') := Lib.hid (HF.out (by rw [HX.out]; simp))
     go_wp2_with fail
     try simp only [List.append_eq, List.cons_append, List.nil_append]
     refine wp_region_quiet_below (by kernel_rfl) (Eq.trans (by kernel_rfl) lexSameF) ?_
     repeat (go_big_quiet_step (first | with_reducible exact cP _ _ | with_reducible exact cB _ _))
     refine wpQuiet_nil ?_
     intro _ hw
     obtain ⟨⟨dq, osq⟩, hw2⟩ := hw
     subst hw2
     have hQ : Fr [] V2 (grow (redrawn V2 dq) osq) := Fr.of_below (below_regrown V2 dq osq)
     obtain ⟨VQ, hVQ⟩ : ∃ X, X = grow (redrawn V2 dq) osq := ⟨_, rfl⟩
     rw [← hVQ] at hQ ⊢
     clear hVQ dq osq
     go_wp2
     go_ret
     exact ⟨ret_bool (eqFs_ne HN.out).symm, hfW.trans (hf.trans hQ)⟩
    have HS := Lib.hid (HTT.out (by rw [HX.out]; simp))
    go_wp2_with fail
    try simp only [List.append_eq, List.cons_append, List.nil_append]
    refine wp_region_quiet_below (by kernel_rfl) (Eq.trans (by kernel_rfl) lexSameF) ?_
    repeat (go_big_quiet_step (first | with_reducible exact cP _ _ | with_reducible exact cB _ _))
    refine wpQuiet_nil ?_
    intro _ hw
    obtain ⟨⟨dq, osq⟩, hw2⟩ := hw
    subst hw2
    have hQ : Fr [] V2 (grow (redrawn V2 dq) osq) := Fr.of_below (below_regrown V2 dq osq)
    obtain ⟨VQ, hVQ⟩ : ∃ X, X = grow (redrawn V2 dq) osq := ⟨_, rfl⟩
    rw [← hVQ] at hQ ⊢
    clear hVQ dq osq
    go_wp2
    go_roundw
    case rel => exact ⟨k + 1, by omega, by go_num, HS, hf.trans hQ⟩
    case measure => simp [intOf]; omega
   ·have HS : Hid (l = l') := Lib.hid (by have h := HT.out; rwa [List.take_of_length_le (by omega), List.take_of_length_le (by have := HLEN.out; omega)] at h)
    go_wp2
    go_ret
    exact ⟨ret_bool (by rw [HS.out, eqFs_self]), hfW.trans hf⟩
 ·have HN := Lib.hid (eqFs_ne (l := l) (m := l') (fun h => hlen (by rw [h])))
  go_wp2
  go_ret
  exact ⟨ret_bool HN.out.symm, hfW⟩
end

end Go.Proofs.YtchldahkcpbgcaaGreatDoor
