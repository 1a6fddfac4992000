/- Texts of this seat, one behind the other: Rpl, CutP, Kep, KeptP, KeptQ. -/
import Derived.Test.YtchldahkcpbgcaaGreatDoorsk44
import Derived.Test.YtchldahkcpbgcaaGreatDoorsk24
import Derived.Test.YtchldahkcpbgcaaGreatDoorsk43
import Derived.Test.YtchldahkcpbgcaaGreatDoorsk30
import Derived.Lib.QuietBelow
namespace Go.Proofs.YtchldahkcpbgcaaGreatDoor
set_option linter.unusedVariables false

/- Replace. -/
section
open Go.RowKit
set_option linter.unusedSimpArgs false
def replaceO (fs : List Fu) (n : Int) (wt : List Nd) : List Fu × Int :=
 if shapeP fs ≠ 0 then ([], shapeP fs) else match findP fs n with
  | none => ([], 7)
  | some _ => if shapeP (edF (repE n wt) fs 0) ≠ 0 then ([], shapeP (edF (repE n wt) fs 0)) else (edF (repE n wt) fs 0, 0)
theorem rep_bad {fs : List Fu} {n : Int} {wt : List Nd} (h : shapeP fs ≠ 0) : replaceO fs n wt = ([], shapeP fs) := by unfold replaceO; rw [if_pos h]
theorem rep_none {fs : List Fu} {n : Int} {wt : List Nd} (h : shapeP fs = 0) (h1 : findP fs n = none) : replaceO fs n wt = ([], 7) := by unfold replaceO; rw [if_neg (by simp [h]), h1]
theorem rep_shape {fs : List Fu} {n : Int} {wt : List Nd} {p : Plc} (h : shapeP fs = 0) (h1 : findP fs n = some p) (h2 : shapeP (edF (repE n wt) fs 0) ≠ 0) : replaceO fs n wt = ([], shapeP (edF (repE n wt) fs 0)) := by unfold replaceO; rw [if_neg (by simp [h]), h1]; simp only; rw [if_pos h2]
theorem rep_ok {fs : List Fu} {n : Int} {wt : List Nd} {p : Plc} (h : shapeP fs = 0) (h1 : findP fs n = some p) (h2 : shapeP (edF (repE n wt) fs 0) = 0) : replaceO fs n wt = (edF (repE n wt) fs 0, 0) := by unfold replaceO; rw [if_neg (by simp [h]), h1]; simp only; rw [if_neg (by simp [h2])]
def RetPE (w : World) (r : List Fu × Int) (en : Ending) (w' : World) : Prop := ∃ A c m, en = .returned (.tuple #[.agg #[.slice A r.1.length c], .int .i64 r.2]) ∧ RF (Bel w) m w' A c r.1 ∧ Fr [] w w'
theorem RetPE.err {w w' : World} {r : List Fu × Int} {e : Int} {en : Ending} (hr : r = ([], e)) (hf : Fr [] w w') (he : en = .returned (.tuple #[.agg #[.slice none 0 0], .int .i64 e])) : RetPE w r en w' := by
 subst hr
 exact ⟨none, 0, 1, he, RF.nil_ _ _ _, hf⟩
theorem results_progE {fn : Func} {p t : Tmp} (h : fn.results = #[.cell p 25, .tmp t]) (tmps : Array Value) (w : World) (g : Nat) {a0 : Value} (hp : tmps.getD p undef = .pointer (some ⟨g, 0, none⟩)) (hb : Blk w g 25 #[a0]) :
  (results fn tmps).run Tryz.prog w = .ok (.tuple #[.agg #[a0], tmps.getD t undef]) w := by
 have c0 := hb.cell 0 rfl
 simp only [Array.getD_eq_getD_getElem?] at hp
 simp [results, h, go_sem, hp, c0]
theorem shape_small {fs : List Fu} (h : shapeP fs = 0) : cntF fs ≤ 1024 ∧ fs.length ≤ 16 := by
 unfold shapeP at h
 split at h
 ·exact absurd h (by decide)
 ·split at h
  ·exact absurd h (by decide)
  ·omega
set_option maxHeartbeats 3200000 in
set_option maxRecDepth 20000 in
theorem Replace_any {S S' : Nat → Prop} {k nw : Nat} {A Aw : Option Addr} {c cw : Nat} {fs : List Fu} {wt : List Nd} {w : World} (n : Int) (hR : RF S k w A c fs) (hW : LN S' nw w Aw cw wt) (hb : cntF fs ≤ 1000000000) (ht : TxF fs) (hwl : wt.length ≤ 9000) (hwc : cntL wt ≤ 9000) (hwp : ppL wt) (hwt : TxL wt) :
  Calls Tryz.prog 28 #[.agg #[.slice A fs.length c], .int .i64 n, .slice Aw wt.length cw] w (RetPE w (replaceO fs n wt)) := by
 obtain ⟨pb, hpb⟩ : ∃ g, g = w.heap.size := ⟨_, rfl⟩
 have HPB := Lib.hid hpb
 obtain ⟨r, hr⟩ : ∃ r, replaceO fs n wt = r := ⟨_, rfl⟩
 rw [hr]
 have HR := Lib.hid hr
 clear hpb hr
 go_enter Tryz.func28, Tryz.ntmps28
 go_upto_region 1 with fail
 have hpb := HPB.out
 rw [← hpb]
 refine wp_hide (fun W hV => ?_)
 have hf0 : Fr [] w W := by rw [hV]; exact frx
 have hP : Blk W pb 25 #[.slice A fs.length c] := by rw [hV]; exact (((Blk.new _ _ _ _ hpb).alloc _).alloc _).alloc _
 have hN : Blk W (pb + 1) 3 #[.int .i64 n] := by rw [hV]; exact ((Blk.new _ _ _ _ (by simp [hpb])).alloc _).alloc _
 have hX : Blk W (pb + 1 + 1) 43 #[.slice Aw wt.length cw] := by rw [hV]; exact (Blk.new _ _ _ _ (by simp [hpb])).alloc _
 have hZ : Blk W (pb + 1 + 1 + 1) 25 #[.slice none 0 0] := by rw [hV]; exact Blk.new _ _ _ _ (by simp [hpb])
 have hWs : W.heap.size = pb + 4 := by rw [hV, hpb]; simp
 have hpw : w.heap.size ≤ pb := by omega
 clear hV hpb
 have HF := Lib.hid (find_any pb n A c fs S k W hP (hR.fr0 hf0) hb ht)
 have hRW := hR.fr0 hf0
 have hWW := hW.fr0 hf0
 have n0 : W.cell? ⟨pb + 1, 0, none⟩ = some (.int .i64 n) := hN.cell 0 rfl
 go_wp2_with fail
 refine HF.out.mono ?_
 rintro e w1 hfd
 obtain ⟨hf1, hcase⟩ := find_open hRW hfd
 have hZ1 := hZ.fr hf1 (by simp)
 have hw1 := hf0.trans hf1
 have hzl := hZ1.lt
 clear hfd HF hZ n0
 rcases hcase with ⟨hs, rfl⟩ | ⟨hs, hfp, rfl⟩ | ⟨hs, p, b, o, hd, m, hfp, rfl, hNd, hH, _, _⟩
 ·obtain ⟨sh, hsh⟩ : ∃ z, shapeP fs = z := ⟨_, rfl⟩
  have HX := Lib.hid (HR.out.symm.trans (rep_bad hs))
  rw [hsh] at hs HX ⊢
  have ez : (sh != 0) = true := by simpa using hs
  clear hsh hs
  go_upto_region 2 with fail
  refine wp_hide (fun M hM => ?_)
  have hfM : Fr [] w1 M := by rw [hM]; exact frx
  have hZM := hZ1.fr hfM (by simp)
  have hwM := hw1.trans hfM
  clear hM hZ1 hfM
  have z0 : M.cell? ⟨pb + 1 + 1 + 1, 0, none⟩ = some (.slice none 0 0) := hZM.cell 0 rfl
  have zz := hZM.frozen 0
  go_wp2
  refine bodyPost_ret (results_progE rfl _ _ (pb + 1 + 1 + 1) rfl (a0 := .slice none 0 0) (by simpa using hZM.set_ 0 (.slice none 0 0))) rfl ?_
  exact RetPE.err HX.out (hwM.trans2 (fr_put M _ 0 _) (fun q hq => .inr (by simp at hq; omega))) rfl
 ·have HX := Lib.hid (HR.out.symm.trans (rep_none hs hfp))
  clear hs hfp
  go_upto_region 2 with fail
  refine wp_hide (fun M hM => ?_)
  have hfM : Fr [] w1 M := by rw [hM]; exact frx
  have hZM := hZ1.fr hfM (by simp)
  have hwM := hw1.trans hfM
  clear hM hZ1 hfM
  have z0 : M.cell? ⟨pb + 1 + 1 + 1, 0, none⟩ = some (.slice none 0 0) := hZM.cell 0 rfl
  have zz := hZM.frozen 0
  go_wp2
  refine bodyPost_ret (results_progE rfl _ _ (pb + 1 + 1 + 1) rfl (a0 := .slice none 0 0) (by simpa using hZM.set_ 0 (.slice none 0 0))) rfl ?_
  exact RetPE.err HX.out (hwM.trans2 (fr_put M _ 0 _) (fun q hq => .inr (by simp at hq; omega))) rfl
 ·obtain ⟨hc1, hc2⟩ := shape_small hs
  have hpp := shape_pp hs
  have HS := Lib.hid hs
  have HFP := Lib.hid hfp
  clear hs hfp hNd hH
  go_upto_region 2 with fail
  refine wp_hide (fun M hM => ?_)
  have hfM : Fr [] w1 M := by rw [hM]; exact frx
  have hZM := hZ1.fr hfM (by simp)
  have hwM := hw1.trans hfM
  have hWM := hf1.trans hfM
  clear hM hZ1
  have hPM : M.cell? ⟨pb, 0, none⟩ = some (.slice A fs.length c) := (hP.fr hWM (by simp)).cell 0 rfl
  have hNM : M.cell? ⟨pb + 1, 0, none⟩ = some (.int .i64 n) := (hN.fr hWM (by simp)).cell 0 rfl
  have hXM : M.cell? ⟨pb + 1 + 1, 0, none⟩ = some (.slice Aw wt.length cw) := (hX.fr hWM (by simp)).cell 0 rfl
  have hzM := hZM.lt
  have hLM : LN (upB M.heap.size) nw M Aw cw wt := (hWW.fr0 hWM).sub (fun b hb h => absurd h (by unfold upB; omega))
  have HC := Lib.hid (edC_repl (KK := nuF fs) hNM hXM hLM (by omega) (by omega) hwl)
  have HRB := Lib.hid (rebuilt_any pb _ _ nw (nuF fs) _ (repE n wt) (hRW.fr0 hWM) hPM HC.out (by omega) (by omega) (Nat.le_refl _) (fun g hg => by have := (hpp g hg).2; omega) (fun g hg i => ⟨by
   have h1 := edL_cnt (C := cntL wt) (repE_cnt n wt) g.body i
   have h2 := cntL_of hg
   have h3 : (cntL wt + 1) * cntL g.body ≤ 9001 * 1024 := Nat.mul_le_mul (by omega) (by omega)
   omega, edL_pp (repE_pp hwp) _ _ (hpp g hg).1⟩))
  have hqc : cntF (edF (repE n wt) fs 0) ≤ 1000000000 := by
   have h1 := edF_cnt (C := cntL wt) (repE_cnt n wt) fs 0
   have h3 : (cntL wt + 1) * cntF fs ≤ 9001 * 1024 := Nat.mul_le_mul (by omega) (by omega)
   omega
  have hqt : TxF (edF (repE n wt) fs 0) := edF_tx (fun i y hy => repE_tx ((txL_iff _).2 hwt) i y hy) fs 0 ht
  obtain ⟨q, hq⟩ : ∃ q, edF (repE n wt) fs 0 = q := ⟨_, rfl⟩
  have HQ := Lib.hid hq
  rw [hq] at HRB hqc hqt
  clear hq HC hLM hNM hXM hPM hpp
  go_wp2_with fail
  refine HRB.out.mono ?_
  rintro e w3 ⟨A3, c3, rfl, hR3, hf3⟩
  have hZ3 := hZM.fr hf3 (by simp)
  have hw3 := hwM.trans hf3
  have hz3 := hZ3.lt
  obtain ⟨gq, hgq⟩ : ∃ g, g = w3.heap.size := ⟨_, rfl⟩
  go_upto_region 5 with fail
  rw [← hgq]
  refine wp_hide (fun M4 hM4 => ?_)
  have hf4 : Fr [] w3 M4 := by rw [hM4]; exact frx
  have hQ4 : Blk M4 gq 25 #[.slice A3 q.length c3] := by rw [hM4]; exact Blk.new _ _ _ _ hgq
  have hZ4 := hZ3.fr hf4 (by simp)
  have hw4 := hw3.trans hf4
  have hR4 := hR3.fr0 hf4
  have q4 : M4.cell? ⟨gq, 0, none⟩ = some (.slice A3 q.length c3) := hQ4.cell 0 rfl
  have HSH := Lib.hid (Shape_any A3 c3 q _ _ M4 hR4 hqc hqt)
  have hgz : pb + 1 + 1 + 1 ≠ gq := by omega
  clear hM4 hgq hZM HRB hZ3
  go_wp2_with fail
  refine HSH.out.mono ?_
  rintro e w5 ⟨rfl, hf5⟩
  have hZ5 := hZ4.fr hf5 (by simp)
  have hw5 := hw4.trans hf5
  have hR5 := hR4.fr0 hf5
  have q5 := hf5.cell q4 (by simp)
  have z0 : w5.cell? ⟨pb + 1 + 1 + 1, 0, none⟩ = some (.slice none 0 0) := hZ5.cell 0 rfl
  have zz := hZ5.frozen 0
  have hz5 := hZ5.lt
  have hs5 := hwM.size
  obtain ⟨sq, hsq⟩ : ∃ z, shapeP q = z := ⟨_, rfl⟩
  have HSQ := Lib.hid hsq
  rw [hsq]
  clear hsq q4 hQ4 hZ4
  by_cases hz : sq = 0
  ·subst hz
   have HX := Lib.hid (HR.out.symm.trans (rep_ok HS.out HFP.out (by rw [HQ.out]; exact HSQ.out)))
   rw [HQ.out] at HX
   go_wp2
   refine bodyPost_ret (results_progE rfl _ _ (pb + 1 + 1 + 1) rfl (a0 := .slice A3 q.length c3) (by simpa using hZ5.set_ 0 (.slice A3 q.length c3))) rfl ?_
   have ff := fr_put w5 (pb + 1 + 1 + 1) 0 (.slice A3 q.length c3)
   rw [HX.out]
   exact ⟨A3, c3, _, rfl, (hR5.fr ff (fun b hb => by simp at hb; show b < _; omega)).sub (fun b _ hb => by have : b < w.heap.size := hb; show b < _; omega), hw5.trans2 ff (fun b hb => .inr (by simp at hb; omega))⟩
  ·have HX := Lib.hid (HR.out.symm.trans (rep_shape HS.out HFP.out (by rw [HQ.out, HSQ.out]; exact hz)))
   rw [HQ.out, HSQ.out] at HX
   have ez : (sq != 0) = true := by simpa using hz
   clear hz
   go_wp2
   refine bodyPost_ret (results_progE rfl _ _ (pb + 1 + 1 + 1) rfl (a0 := .slice none 0 0) (by simpa using hZ5.set_ 0 (.slice none 0 0))) rfl ?_
   exact RetPE.err HX.out (hw5.trans2 (fr_put w5 _ 0 _) (fun q hq => .inr (by simp at hq; omega))) rfl
end

/- What a cut does: plain. -/
section
open Go.RowKit
set_option linter.unusedSimpArgs false
abbrev cutE (n : Nat) : Nat → Nd → List Nd := repE (n : Int) []
mutual
theorem edS_same (n : Nat) : ∀ (x : Nd) (i : Nat), ¬ (i ≤ n ∧ n < i + x.nuS) → x.edS (cutE n) i = [x]
  | .mk k t m s p b e, i, h => by
    rw [Nd.nuS] at h
    rw [Nd.edS, edE_same n s _ (by omega), edL_same n b _ (by omega), edL_same n e _ (by omega)]
    show repE (n : Int) [] i _ = _
    unfold repE
    rw [if_neg (by omega)]
theorem edX_same (n : Nat) : ∀ (x : Nd) (i : Nat), ¬ (i ≤ n ∧ n < i + x.nuX) → x.edX (cutE n) i = x
  | .mk k t m s p b e, i, h => by
    rw [Nd.nuX] at h
    rw [Nd.edX, edE_same n s _ (by omega)]
    by_cases hk : k = 10
    · rw [if_pos hk] at h
      rw [if_pos hk, edL_same n b _ (by omega)]
    · rw [if_neg hk]
theorem edL_same (n : Nat) : ∀ (l : List Nd) (i : Nat), ¬ (i ≤ n ∧ n < i + nuL l) → edL (cutE n) l i = l
  | [], i, _ => by rw [edL]
  | x :: l, i, h => by
    rw [nuL] at h
    have h0 : 1 ≤ x.nuS := by rw [Nd.nuS_eq]; omega
    rw [edL, edS_same n x i (by omega), edL_same n l _ (by omega)]
    rfl
theorem edE_same (n : Nat) : ∀ (l : List Nd) (i : Nat), ¬ (i ≤ n ∧ n < i + nuE l) → edE (cutE n) l i = l
  | [], i, _ => by rw [edE]
  | x :: l, i, h => by
    rw [nuE] at h
    rw [edE, edX_same n x i (by omega), edE_same n l _ (by omega)]
end
def CutAt (K : List Kt) (ps : List Plc) (m : Nat) (K' : List Kt) : Prop :=
 ∃ P Q R p, K = P ++ (Q ++ R) ∧ K' = P ++ R ∧ P.length = m ∧ ps[m]? = some p ∧ Q.length = p.1.nuS ∧ p.2.size = p.1.sz
theorem CutAt.ctx {K K' A B : List Kt} {ps pa pb : List Plc} {m q : Nat} (h : CutAt K ps m K') (hp : pa.length = A.length) (hk : ps.length = K.length) (hq : q = A.length + m) : CutAt (A ++ (K ++ B)) (pa ++ (ps ++ pb)) q (A ++ (K' ++ B)) := by
 subst hq
 obtain ⟨P, Q, R, p, rfl, rfl, h1, h2, h3, h4⟩ := h
 refine ⟨A ++ P, Q, R ++ B, p, by simp, by simp, by simp [h1], ?_, h3, h4⟩
 have hm : m < ps.length := (List.getElem?_eq_some_iff.1 h2).1
 rw [List.getElem?_append_right (by omega), hp, Nat.add_sub_cancel_left, List.getElem?_append_left hm]
 exact h2
mutual
theorem cutS (n : Nat) : ∀ (x : Nd) (i : Nat) (sp : Spt), sp.size = x.sz → i ≤ n → n < i + x.nuS → CutAt x.ktS (x.plS i sp) (n - i) (ktL (x.edS (cutE n) i))
  | .mk k t m s p b e, i, sp, hsp, h1, h2 => by
    by_cases hn : i = n
    · have h3 : (Nd.mk k t m s p b e).edS (cutE n) i = [] := by
        rw [Nd.edS]
        show repE (n : Int) [] i _ = _
        unfold repE
        rw [if_pos (by omega)]
      rw [h3, ktL, hn, Nat.sub_self]
      refine ⟨[], (Nd.mk k t m s p b e).ktS, [], (.mk k t m s p b e, sp), by simp, rfl, rfl, by rw [Nd.plS]; rfl, ?_, hsp⟩
      have := plS_kt (Nd.mk k t m s p b e) i sp
      rw [← this.1, List.length_map, this.2]
    · have h3 : (Nd.mk k t m s p b e).edS (cutE n) i = [.mk k t m (edE (cutE n) s (i + 1)) p (edL (cutE n) b (i + 1 + nuE s)) (edL (cutE n) e (i + 1 + nuE s + nuL b))] := by
        rw [Nd.edS]
        show repE (n : Int) [] i _ = _
        unfold repE
        rw [if_neg (by omega)]
      rw [Nd.nuS] at h2
      rw [h3, ktL, ktL, Nd.ktS, Nd.ktS, Nd.plS, List.append_nil, edE_len]
      try dsimp only
      rw [(plE_kt s _ _).2, (plL_kt b _ _ _).2]
      have le : (plE s (i + 1) { func := sp.func, fn := sp.fn, parent := (i : Int), part := 0, index := 0, size := 0 }).length = nuE s := (plE_kt s _ _).2
      have lb : (plL b (i + 1 + nuE s) { func := sp.func, fn := sp.fn, parent := (i : Int), part := 1, index := 0, size := 0 } 0).length = nuL b := (plL_kt b _ _ _).2
      have ll : (plL e (i + 1 + nuE s + nuL b) { func := sp.func, fn := sp.fn, parent := (i : Int), part := 2, index := 0, size := 0 } 0).length = nuL e := (plL_kt e _ _ _).2
      have ke : (ktE s).length = nuE s := by rw [← (plE_kt s 0 sp).1, List.length_map, (plE_kt s 0 sp).2]
      have kb : (ktL b).length = nuL b := by rw [← (plL_kt b 0 sp 0).1, List.length_map, (plL_kt b 0 sp 0).2]
      have kl : (ktL e).length = nuL e := by rw [← (plL_kt e 0 sp 0).1, List.length_map, (plL_kt e 0 sp 0).2]
      by_cases ha : n < i + 1 + nuE s
      · have h4 := cutE' n s (i + 1) { func := sp.func, fn := sp.fn, parent := (i : Int), part := 0, index := 0, size := 0 } (by omega) (by omega)
        rw [edL_same n b _ (by omega), edL_same n e _ (by omega)]
        have := h4.ctx (A := [(k, t, s.length)]) (B := ktL b ++ ktL e) (pa := [(.mk k t m s p b e, sp)]) (pb := plL b (i + 1 + nuE s) { func := sp.func, fn := sp.fn, parent := (i : Int), part := 1, index := 0, size := 0 } 0 ++ plL e (i + 1 + nuE s + nuL b) { func := sp.func, fn := sp.fn, parent := (i : Int), part := 2, index := 0, size := 0 } 0) (q := n - i) rfl (by rw [le, ke]) (by simp; omega)
        simpa [List.append_assoc] using this
      · rw [edE_same n s _ (by omega)]
        by_cases hb : n < i + 1 + nuE s + nuL b
        · have h4 := cutL n b (i + 1 + nuE s) { func := sp.func, fn := sp.fn, parent := (i : Int), part := 1, index := 0, size := 0 } 0 (by omega) (by omega)
          rw [edL_same n e _ (by omega)]
          have := h4.ctx (A := (k, t, s.length) :: ktE s) (B := ktL e) (pa := (.mk k t m s p b e, sp) :: plE s (i + 1) { func := sp.func, fn := sp.fn, parent := (i : Int), part := 0, index := 0, size := 0 }) (pb := plL e (i + 1 + nuE s + nuL b) { func := sp.func, fn := sp.fn, parent := (i : Int), part := 2, index := 0, size := 0 } 0) (q := n - i) (by simp [le, ke]) (by rw [lb, kb]) (by simp [ke]; omega)
          simpa [List.append_assoc] using this
        · rw [edL_same n b _ (by omega)]
          have h4 := cutL n e (i + 1 + nuE s + nuL b) { func := sp.func, fn := sp.fn, parent := (i : Int), part := 2, index := 0, size := 0 } 0 (by omega) (by omega)
          have := h4.ctx (A := (k, t, s.length) :: (ktE s ++ ktL b)) (B := []) (pa := (.mk k t m s p b e, sp) :: (plE s (i + 1) { func := sp.func, fn := sp.fn, parent := (i : Int), part := 0, index := 0, size := 0 } ++ plL b (i + 1 + nuE s) { func := sp.func, fn := sp.fn, parent := (i : Int), part := 1, index := 0, size := 0 } 0)) (pb := []) (q := n - i) (by simp [le, ke, lb, kb]) (by rw [ll, kl]) (by simp [ke, kb]; omega)
          simpa [List.append_assoc] using this
theorem cutX (n : Nat) : ∀ (x : Nd) (i : Nat) (sp : Spt), i ≤ n → n < i + x.nuX → CutAt x.ktX (x.plX i sp) (n - i) (x.edX (cutE n) i).ktX
  | .mk k t m s p b e, i, sp, h1, h2 => by
    rw [Nd.nuX] at h2
    rw [Nd.edX, Nd.ktX, Nd.ktX, Nd.plX]
    try dsimp only
    have le : (plE s i sp).length = nuE s := (plE_kt s _ _).2
    have ke : (ktE s).length = nuE s := by rw [← (plE_kt s 0 sp).1, List.length_map, (plE_kt s 0 sp).2]
    rw [le]
    by_cases ha : n < i + nuE s
    · have h4 := cutE' n s i sp h1 ha
      have hz : (if k = 10 then ktL (if k = 10 then edL (cutE n) b (i + nuE s) else b) else []) = (if k = 10 then ktL b else []) := by
        split
        · rw [edL_same n b _ (by omega)]
        · rfl
      rw [hz]
      have := h4.ctx (A := []) (B := if k = 10 then ktL b else []) (pa := []) (pb := if k = 10 then plL b (i + nuE s) { sp with fn := true, part := 3 } 0 else []) (q := n - i) rfl (by rw [le, ke]) (by simp)
      simpa using this
    · rw [edE_same n s _ (by omega)]
      by_cases hk : k = 10
      · rw [if_pos hk] at h2
        rw [if_pos hk, if_pos hk, if_pos hk, if_pos hk]
        have h4 := cutL n b (i + nuE s) { sp with fn := true, part := 3 } 0 (by omega) (by omega)
        have lb : (plL b (i + nuE s) { sp with fn := true, part := 3 } 0).length = nuL b := (plL_kt b _ _ _).2
        have kb : (ktL b).length = nuL b := by rw [← (plL_kt b 0 sp 0).1, List.length_map, (plL_kt b 0 sp 0).2]
        have := h4.ctx (A := ktE s) (B := []) (pa := plE s i sp) (pb := []) (q := n - i) (by rw [le, ke]) (by rw [lb, kb]) (by rw [ke]; omega)
        simpa using this
      · rw [if_neg hk] at h2
        omega
theorem cutL (n : Nat) : ∀ (l : List Nd) (i : Nat) (sp : Spt) (j : Nat), i ≤ n → n < i + nuL l → CutAt (ktL l) (plL l i sp j) (n - i) (ktL (edL (cutE n) l i))
  | [], i, sp, j, h1, h2 => by rw [nuL] at h2; omega
  | x :: l, i, sp, j, h1, h2 => by
    rw [nuL] at h2
    rw [edL, ktL_app, ktL, plL]
    try dsimp only
    have lx : (x.plS i { sp with index := j, size := szL [x] }).length = x.nuS := (plS_kt x _ _).2
    have kx : x.ktS.length = x.nuS := by rw [← (plS_kt x 0 sp).1, List.length_map, (plS_kt x 0 sp).2]
    have hk : ktL [x] = x.ktS := by rw [ktL, ktL, List.append_nil]
    rw [lx]
    by_cases ha : n < i + x.nuS
    · have h4 := cutS n x i { sp with index := j, size := szL [x] } (by simp [szL]) h1 ha
      rw [edL_same n l _ (by omega)]
      have := h4.ctx (A := []) (B := ktL l) (pa := []) (pb := plL l (i + x.nuS) sp (j + 1)) (q := n - i) rfl (by rw [lx, kx]) (by simp)
      simpa using this
    · rw [edS_same n x i (by omega), hk]
      have h4 := cutL n l (i + x.nuS) sp (j + 1) (by omega) (by omega)
      have ll : (plL l (i + x.nuS) sp (j + 1)).length = nuL l := (plL_kt l _ _ _).2
      have kl : (ktL l).length = nuL l := by rw [← (plL_kt l 0 sp 0).1, List.length_map, (plL_kt l 0 sp 0).2]
      have := h4.ctx (A := x.ktS) (B := []) (pa := x.plS i { sp with index := j, size := szL [x] }) (pb := []) (q := n - i) (by rw [lx, kx]) (by rw [ll, kl]) (by rw [kx]; omega)
      simpa using this
theorem cutE' (n : Nat) : ∀ (l : List Nd) (i : Nat) (sp : Spt), i ≤ n → n < i + nuE l → CutAt (ktE l) (plE l i sp) (n - i) (ktE (edE (cutE n) l i))
  | [], i, sp, h1, h2 => by rw [nuE] at h2; omega
  | x :: l, i, sp, h1, h2 => by
    rw [nuE] at h2
    rw [edE, ktE, ktE, plE]
    try dsimp only
    have lx : (x.plX i sp).length = x.nuX := (plX_kt x _ _).2
    have kx : x.ktX.length = x.nuX := by rw [← (plX_kt x 0 sp).1, List.length_map, (plX_kt x 0 sp).2]
    rw [lx]
    by_cases ha : n < i + x.nuX
    · have h4 := cutX n x i sp h1 ha
      rw [edE_same n l _ (by omega)]
      have := h4.ctx (A := []) (B := ktE l) (pa := []) (pb := plE l (i + x.nuX) sp) (q := n - i) rfl (by rw [lx, kx]) (by simp)
      simpa using this
    · rw [edX_same n x i (by omega)]
      have h4 := cutE' n l (i + x.nuX) sp (by omega) (by omega)
      have ll : (plE l (i + x.nuX) sp).length = nuE l := (plE_kt l _ _).2
      have kl : (ktE l).length = nuE l := by rw [← (plE_kt l 0 sp).1, List.length_map, (plE_kt l 0 sp).2]
      have := h4.ctx (A := x.ktX) (B := []) (pa := x.plX i sp) (pb := []) (q := n - i) (by rw [lx, kx]) (by rw [ll, kl]) (by rw [kx]; omega)
      simpa using this
end
mutual
theorem plS_ok : ∀ (x : Nd) (i : Nat) (sp : Spt) (f : Bool) (p : Plc), p ∈ x.plS i sp → kindB false x.kind = true → x.okB f = true → kindB false p.1.kind = true ∧ ∃ g, p.1.okB g = true
  | .mk k t m s p b e, i, sp, f, q, hq, hk, hx => by
    rw [Nd.plS] at hq
    simp only [List.mem_cons, List.mem_append] at hq
    have hx2 := hx
    rw [Nd.okB] at hx2
    cases hr : ruleOf k with
    | none => rw [hr] at hx2; cases hx2
    | some r =>
      rw [hr] at hx2
      simp only [Bool.and_eq_true] at hx2
      obtain ⟨_, h1, h2, h3⟩ := hx2
      rcases hq with rfl | (hq | hq) | hq
      · exact ⟨hk, f, hx⟩
      · exact plE_ok s _ _ f q hq h1
      · exact plL_ok b _ _ _ _ q hq h2
      · exact plL_ok e _ _ _ f q hq h3
theorem plX_ok : ∀ (x : Nd) (i : Nat) (sp : Spt) (f : Bool) (p : Plc), p ∈ x.plX i sp → x.okB f = true → kindB false p.1.kind = true ∧ ∃ g, p.1.okB g = true
  | .mk k t m s p b e, i, sp, f, q, hq, hx => by
    rw [Nd.plX] at hq
    simp only [List.mem_append] at hq
    rw [Nd.okB] at hx
    cases hr : ruleOf k with
    | none => rw [hr] at hx; cases hx
    | some r =>
      rw [hr] at hx
      simp only [Bool.and_eq_true] at hx
      obtain ⟨_, h1, h2, h3⟩ := hx
      rcases hq with hq | hq
      · exact plE_ok s _ _ f q hq h1
      · split at hq
        · exact plL_ok b _ _ _ _ q hq h2
        · cases hq
theorem plL_ok : ∀ (l : List Nd) (i : Nat) (sp : Spt) (j : Nat) (f : Bool) (p : Plc), p ∈ plL l i sp j → lsB false f l = true → kindB false p.1.kind = true ∧ ∃ g, p.1.okB g = true
  | [], _, _, _, _, q, hq, _ => by rw [plL] at hq; cases hq
  | x :: l, i, sp, j, f, q, hq, hl => by
    rw [plL] at hq
    simp only [List.mem_append] at hq
    rw [lsB] at hl
    simp only [Bool.and_eq_true] at hl
    rcases hq with hq | hq
    · exact plS_ok x _ _ f q hq hl.1.1 hl.1.2
    · exact plL_ok l _ _ _ f q hq hl.2
theorem plE_ok : ∀ (l : List Nd) (i : Nat) (sp : Spt) (f : Bool) (p : Plc), p ∈ plE l i sp → lsB true f l = true → kindB false p.1.kind = true ∧ ∃ g, p.1.okB g = true
  | [], _, _, _, q, hq, _ => by rw [plE] at hq; cases hq
  | x :: l, i, sp, f, q, hq, hl => by
    rw [plE] at hq
    simp only [List.mem_append] at hq
    rw [lsB] at hl
    simp only [Bool.and_eq_true] at hl
    rcases hq with hq | hq
    · exact plX_ok x _ _ f q hq hl.1.2
    · exact plE_ok l _ _ f q hq hl.2
end
theorem plF_ok : ∀ (fs : List Fu) (i j : Nat) (p : Plc), p ∈ plF i j fs → (∀ f ∈ fs, lsB false false f.body = true) → kindB false p.1.kind = true ∧ ∃ g, p.1.okB g = true
  | [], _, _, q, hq, _ => by rw [plF] at hq; cases hq
  | f :: fs, i, j, q, hq, hl => by
    rw [plF] at hq
    simp only [List.mem_append] at hq
    rcases hq with hq | hq
    · exact plL_ok f.body _ _ _ false q hq (hl f (by simp))
    · exact plF_ok fs _ _ q hq fun g hg => hl g (List.mem_cons_of_mem _ hg)
theorem place_ok {fs : List Fu} (h : shapeP fs = 0) {p : Plc} (hp : p ∈ placesP fs) : kindB false p.1.kind = true ∧ ∃ g, p.1.okB g = true :=
 plF_ok fs 0 0 p hp fun f hf => by
  have := (shape_iff.1 h).2.2.2 f hf
  unfold fuB at this
  simp only [Bool.and_eq_true] at this
  exact this.2
end

/- Keep. -/
section
open Go.RowKit Go.Sort
set_option linter.unusedSimpArgs false
def keepO (fs : List Fu) (kp : List Bool) : List Fu × Int := if shapeP fs ≠ 0 then ([], shapeP fs) else if (kp.length : Int) ≠ countP fs then ([], 1) else (edF (keepE kp) fs 0, 0)
theorem keep_bad {fs : List Fu} {kp : List Bool} (h : shapeP fs ≠ 0) : keepO fs kp = ([], shapeP fs) := by unfold keepO; rw [if_pos h]
theorem keep_arg {fs : List Fu} {kp : List Bool} (h : shapeP fs = 0) (h1 : (kp.length : Int) ≠ countP fs) : keepO fs kp = ([], 1) := by unfold keepO; rw [if_neg (by simp [h]), if_pos h1]
theorem keep_ok {fs : List Fu} {kp : List Bool} (h : shapeP fs = 0) (h1 : (kp.length : Int) = countP fs) : keepO fs kp = (edF (keepE kp) fs 0, 0) := by unfold keepO; rw [if_neg (by simp [h]), if_neg (by simp [h1])]
theorem count_nu {fs : List Fu} (h : shapeP fs = 0) : countP fs = nuF fs := by
 unfold countP
 rw [if_pos h]
 have := (plF_kt fs 0 0).2
 unfold placesP
 rw [this]
set_option maxHeartbeats 3200000 in
set_option maxRecDepth 20000 in
theorem Keep_any {S S' : Nat → Prop} {k : Nat} {A Ak : Option Addr} {c ck : Nat} {fs : List Fu} {kp : List Bool} {w : World} (hR : RF S k w A c fs) (hK : RdS S' w .bool Ak ck kp) (hb : cntF fs ≤ 1000000000) (ht : TxF fs) :
  Calls Tryz.prog 35 #[.agg #[.slice A fs.length c], .slice Ak kp.length ck] w (RetPE w (keepO fs kp)) := by
 have hkb := hK.1.bound
 obtain ⟨pb, hpb⟩ : ∃ g, g = w.heap.size := ⟨_, rfl⟩
 have HPB := Lib.hid hpb
 obtain ⟨r, hr⟩ : ∃ r, keepO fs kp = r := ⟨_, rfl⟩
 rw [hr]
 have HR := Lib.hid hr
 clear hpb hr
 go_enter Tryz.func35, Tryz.ntmps35
 go_upto_region 1 with fail
 have hpb := HPB.out
 rw [← hpb]
 refine wp_hide (fun W hV => ?_)
 have hf0 : Fr [] w W := by rw [hV]; exact frx
 have hP : Blk W pb 25 #[.slice A fs.length c] := by rw [hV]; exact ((Blk.new _ _ _ _ hpb).alloc _).alloc _
 have hX : Blk W (pb + 1) 50 #[.slice Ak kp.length ck] := by rw [hV]; exact (Blk.new _ _ _ _ (by simp [hpb])).alloc _
 have hZ : Blk W (pb + 1 + 1) 25 #[.slice none 0 0] := by rw [hV]; exact Blk.new _ _ _ _ (by simp [hpb])
 have hWs : W.heap.size = pb + 3 := by rw [hV, hpb]; simp
 have hpw : w.heap.size ≤ pb := by omega
 clear hV hpb
 have HS := Lib.hid (Shape_any A c fs S k W (hR.fr0 hf0) hb ht)
 have HC : Hid (∀ V, Fr [] W V → Calls Tryz.prog 29 #[.agg #[.slice A fs.length c]] V (RetV V (.int .i64 (countP fs)))) := Lib.hid fun V hV => Count_any A c fs S k V (hR.fr0 (hf0.trans hV)) hb ht
 have q0 : W.cell? ⟨pb, 0, none⟩ = some (.slice A fs.length c) := hP.cell 0 rfl
 have x0 : W.cell? ⟨pb + 1, 0, none⟩ = some (.slice Ak kp.length ck) := hX.cell 0 rfl
 obtain ⟨sh, hsh⟩ : ∃ z, shapeP fs = z := ⟨_, rfl⟩
 rw [hsh] at HS
 have HSH := Lib.hid hsh
 clear hsh
 go_wp2_with fail
 refine HS.out.mono ?_
 rintro e w1 ⟨rfl, hf1⟩
 have hZ1 := hZ.fr hf1 (by simp)
 have hw1 := hf0.trans hf1
 have hzl := hZ1.lt
 have q1 := hf1.cell q0 (by simp)
 have x1 := hf1.cell x0 (by simp)
 have z0 : w1.cell? ⟨pb + 1 + 1, 0, none⟩ = some (.slice none 0 0) := hZ1.cell 0 rfl
 have zz := hZ1.frozen 0
 clear hZ HS q0 x0
 by_cases hs : sh = 0
 rotate_left 1
 ·have HX := Lib.hid (HR.out.symm.trans (keep_bad (by rw [HSH.out]; exact hs)))
  rw [HSH.out] at HX
  have ez : (sh != 0) = true := by simpa using hs
  clear hs
  go_wp2
  refine bodyPost_ret (results_progE rfl _ _ (pb + 1 + 1) rfl (a0 := .slice none 0 0) (by simpa using hZ1.set_ 0 (.slice none 0 0))) rfl ?_
  exact RetPE.err HX.out (hw1.trans2 (fr_put w1 _ 0 _) (fun q hq => .inr (by simp at hq; omega))) rfl
 subst hs
 have c0 := fun d os => cell_regrown q1 d os
 have c1 := fun d os => cell_regrown x1 d os
 have k1 := fun d os => Calls.regrown_of ((HC.out _ (hf1.trans (Fr.of_below (below_regrown w1 d os)))).mono fun e w' h => ⟨h.1, h.2.below⟩)
 go_upto_region 4 with fail
 refine wp_region_quiet_below (by kernel_rfl) (by kernel_rfl) ?_
 repeat (go_big_quiet_step (first | with_reducible exact k1 _ _))
 refine wpQuiet_nil ?_
 intro _ hw
 obtain ⟨⟨dq, osq⟩, hw2⟩ := hw
 subst hw2
 have hQ : Fr [] w1 (grow (redrawn w1 dq) osq) := Fr.of_below (below_regrown w1 dq osq)
 obtain ⟨VQ, hVQ⟩ : ∃ X, X = grow (redrawn w1 dq) osq := ⟨_, rfl⟩
 rw [← hVQ] at hQ ⊢
 clear hVQ dq osq
 have hZ2 := hZ1.fr hQ (by simp)
 have hW2 := hf1.trans hQ
 have hw2 := hf0.trans hW2
 have z0 : VQ.cell? ⟨pb + 1 + 1, 0, none⟩ = some (.slice none 0 0) := hZ2.cell 0 rfl
 have zz := hZ2.frozen 0
 have hzl := hZ2.lt
 clear c0 c1 k1 hQ HC q1 x1 hw1 hZ1
 obtain ⟨ct, hct⟩ : ∃ z, countP fs = z := ⟨_, rfl⟩
 rw [hct]
 by_cases hl : (kp.length : Int) = ct
 rotate_left 1
 ·have HX := Lib.hid (HR.out.symm.trans (keep_arg HSH.out (by rw [hct]; exact hl)))
  have ez : ((kp.length : Int) != ct) = true := by simpa using hl
  clear hl hct
  go_wp2
  refine bodyPost_ret (results_progE rfl _ _ (pb + 1 + 1) rfl (a0 := .slice none 0 0) (by simpa using hZ2.set_ 0 (.slice none 0 0))) rfl ?_
  exact RetPE.err HX.out (hw2.trans2 (fr_put VQ _ 0 _) (fun q hq => .inr (by simp at hq; omega))) rfl
 have HX := Lib.hid (HR.out.symm.trans (keep_ok HSH.out (by rw [hct]; exact hl)))
 have hkn : kp.length = nuF fs := by have := count_nu HSH.out; omega
 have ez : ((kp.length : Int) != ct) = false := by simpa using hl
 have hs := HSH.out
 obtain ⟨hc1, hc2⟩ := shape_small hs
 have hpp := shape_pp hs
 have hPM : VQ.cell? ⟨pb, 0, none⟩ = some (.slice A fs.length c) := (hP.fr hW2 (by simp)).cell 0 rfl
 have hXM : VQ.cell? ⟨pb + 1, 0, none⟩ = some (.slice Ak kp.length ck) := (hX.fr hW2 (by simp)).cell 0 rfl
 have HE := Lib.hid (edC_keep (base := VQ.heap.size) hXM ((hK.fr0 hw2).sub (fun b hb h => absurd h (by unfold upB; omega))) (by omega))
 have HRB := Lib.hid (rebuilt_any pb _ _ 1 kp.length _ (keepE kp) (hR.fr0 hw2) hPM HE.out (by omega) (by omega) (by omega) (fun g hg => by have := (hpp g hg).2; omega) (fun g hg i => ⟨by
  have h1 := edL_cnt (C := 0) (keepE_cnt kp) g.body i
  have h2 := cntL_of hg
  omega, edL_pp keepE_pp _ _ (hpp g hg).1⟩))
 obtain ⟨q, hq⟩ : ∃ q, edF (keepE kp) fs 0 = q := ⟨_, rfl⟩
 rw [hq] at HRB HX
 clear hq HE hPM hXM hpp hl hct hkn hs
 go_wp2_with fail
 refine HRB.out.mono ?_
 rintro e w3 ⟨A3, c3, rfl, hR3, hf3⟩
 have hZ3 := hZ2.fr hf3 (by simp)
 have hw3 := hw2.trans hf3
 have z0 : w3.cell? ⟨pb + 1 + 1, 0, none⟩ = some (.slice none 0 0) := hZ3.cell 0 rfl
 have zz := hZ3.frozen 0
 have hzl3 := hZ3.lt
 have hs2 := hw2.size
 clear HRB hZ2
 go_wp2
 refine bodyPost_ret (results_progE rfl _ _ (pb + 1 + 1) rfl (a0 := .slice A3 q.length c3) (by simpa using hZ3.set_ 0 (.slice A3 q.length c3))) rfl ?_
 have ff := fr_put w3 (pb + 1 + 1) 0 (.slice A3 q.length c3)
 rw [HX.out]
 exact ⟨A3, c3, _, rfl, (hR3.fr ff (fun b hb => by simp at hb; show b < _; omega)).sub (fun b _ hb => by have : b < w.heap.size := hb; show b < _; omega), hw3.trans2 ff (fun b hb => .inr (by simp at hb; omega))⟩
end

/- What is kept: plain. -/
section
open Go.RowKit
set_option linter.unusedSimpArgs false
theorem keep_all_ed {kp : List Bool} {N : Nat} (h : ∀ i, i < N → kp[i]?.getD false = true) : ∀ (i : Nat) (x : Nd), i < N → keepE kp i x = [x] := fun i x hi => by unfold keepE; rw [if_pos (h i hi)]
section
variable {ed : Nat → Nd → List Nd} {N : Nat}
mutual
theorem edS_id (h : ∀ (i : Nat) (x : Nd), i < N → ed i x = [x]) : ∀ (x : Nd) (i : Nat), i + x.nuS ≤ N → x.edS ed i = [x]
  | .mk k t m s p b e, i, hN => by
    rw [Nd.nuS] at hN
    rw [Nd.edS, edE_id h s _ (by omega), edL_id h b _ (by omega), edL_id h e _ (by omega)]
    exact h _ _ (by omega)
theorem edX_id (h : ∀ (i : Nat) (x : Nd), i < N → ed i x = [x]) : ∀ (x : Nd) (i : Nat), i + x.nuX ≤ N → x.edX ed i = x
  | .mk k t m s p b e, i, hN => by
    rw [Nd.nuX] at hN
    rw [Nd.edX, edE_id h s _ (by omega)]
    by_cases hk : k = 10
    · rw [if_pos hk] at hN
      rw [if_pos hk, edL_id h b _ (by omega)]
    · rw [if_neg hk]
theorem edL_id (h : ∀ (i : Nat) (x : Nd), i < N → ed i x = [x]) : ∀ (l : List Nd) (i : Nat), i + nuL l ≤ N → edL ed l i = l
  | [], i, _ => by rw [edL]
  | x :: l, i, hN => by
    rw [nuL] at hN
    rw [edL, edS_id h x i (by omega), edL_id h l _ (by omega)]
    rfl
theorem edE_id (h : ∀ (i : Nat) (x : Nd), i < N → ed i x = [x]) : ∀ (l : List Nd) (i : Nat), i + nuE l ≤ N → edE ed l i = l
  | [], i, _ => by rw [edE]
  | x :: l, i, hN => by
    rw [nuE] at hN
    rw [edE, edX_id h x i (by omega), edE_id h l _ (by omega)]
end
theorem edF_id (h : ∀ (i : Nat) (x : Nd), i < N → ed i x = [x]) : ∀ (fs : List Fu) (i : Nat), i + nuF fs ≤ N → edF ed fs i = fs
  | [], i, _ => by rw [edF]
  | f :: fs, i, hN => by
    have e2 : nuF (f :: fs) = nuL f.body + nuF fs := by simp [nuF]
    rw [e2] at hN
    rw [edF, edL_id h f.body i (by omega), edF_id h fs _ (by omega)]
end
theorem rep_ed (n : Nat) (wt : List Nd) (i : Nat) (x : Nd) : repE (n : Int) wt i x = if i = n then wt else [x] := by
 unfold repE
 by_cases h : i = n
 ·rw [if_pos h, if_pos (by omega)]
 ·rw [if_neg h, if_neg (by omega)]
section
variable {n : Nat} {y : Nd}
mutual
theorem repS_own : ∀ (x : Nd) (i : Nat) (sp : Spt), (∀ p, i ≤ n → (x.plS i sp)[n - i]? = some p → p.1 = y) → x.edS (repE (n : Int) [y]) i = [x]
  | .mk k t m s p b e, i, sp, h => by
    have le : ∀ sp, (plE s (i + 1) sp).length = nuE s := fun sp => (plE_kt s _ _).2
    have lb : ∀ sp j, (plL b (i + 1 + nuE s) sp j).length = nuL b := fun sp j => (plL_kt b _ _ _).2
    have hp := h
    rw [Nd.plS] at hp
    try dsimp only at hp
    rw [le, lb] at hp
    have h1 : edE (repE (n : Int) [y]) s (i + 1) = s := repE_own s (i + 1) { func := sp.func, fn := sp.fn, parent := (i : Int), part := 0, index := 0, size := 0 } fun q hi hq => hp q (by omega) (by
      have hl : n - (i + 1) < (plE s (i + 1) { func := sp.func, fn := sp.fn, parent := (i : Int), part := 0, index := 0, size := 0 }).length := (List.getElem?_eq_some_iff.1 hq).1
      rw [show n - i = n - (i + 1) + 1 by omega, List.getElem?_cons_succ, List.append_assoc, List.getElem?_append_left hl]
      exact hq)
    have h2 : edL (repE (n : Int) [y]) b (i + 1 + nuE s) = b := repL_own b (i + 1 + nuE s) { func := sp.func, fn := sp.fn, parent := (i : Int), part := 1, index := 0, size := 0 } 0 fun q hi hq => hp q (by omega) (by
      have hl : n - (i + 1 + nuE s) < (plL b (i + 1 + nuE s) { func := sp.func, fn := sp.fn, parent := (i : Int), part := 1, index := 0, size := 0 } 0).length := (List.getElem?_eq_some_iff.1 hq).1
      rw [show n - i = n - (i + 1) + 1 by omega, List.getElem?_cons_succ, List.append_assoc, List.getElem?_append_right (by rw [le]; omega), le, show n - (i + 1) - nuE s = n - (i + 1 + nuE s) by omega, List.getElem?_append_left hl]
      exact hq)
    have h3 : edL (repE (n : Int) [y]) e (i + 1 + nuE s + nuL b) = e := repL_own e (i + 1 + nuE s + nuL b) { func := sp.func, fn := sp.fn, parent := (i : Int), part := 2, index := 0, size := 0 } 0 fun q hi hq => hp q (by omega) (by
      rw [show n - i = n - (i + 1) + 1 by omega, List.getElem?_cons_succ, List.append_assoc, List.getElem?_append_right (by rw [le]; omega), le, List.getElem?_append_right (by rw [lb]; omega), lb, show n - (i + 1) - nuE s - nuL b = n - (i + 1 + nuE s + nuL b) by omega]
      exact hq)
    rw [Nd.edS, h1, h2, h3, rep_ed]
    by_cases hi : i = n
    · rw [if_pos hi]
      have := hp (.mk k t m s p b e, sp) (by omega) (by rw [show n - i = 0 by omega]; rfl)
      rw [← this]
    · rw [if_neg hi]
theorem repX_own : ∀ (x : Nd) (i : Nat) (sp : Spt), (∀ p, i ≤ n → (x.plX i sp)[n - i]? = some p → p.1 = y) → x.edX (repE (n : Int) [y]) i = x
  | .mk k t m s p b e, i, sp, h => by
    have le : ∀ sp, (plE s i sp).length = nuE s := fun sp => (plE_kt s _ _).2
    have hp := h
    rw [Nd.plX] at hp
    try dsimp only at hp
    rw [le] at hp
    have h1 : edE (repE (n : Int) [y]) s i = s := repE_own s i sp fun q hi hq => hp q hi (by
      have hl : n - i < (plE s i sp).length := (List.getElem?_eq_some_iff.1 hq).1
      rw [List.getElem?_append_left hl]
      exact hq)
    rw [Nd.edX, h1]
    by_cases hk : k = 10
    · rw [if_pos hk] at hp
      have h2 : edL (repE (n : Int) [y]) b (i + nuE s) = b := repL_own b (i + nuE s) { sp with fn := true, part := 3 } 0 fun q hi hq => hp q (by omega) (by
        rw [List.getElem?_append_right (by rw [le]; omega), le, show n - i - nuE s = n - (i + nuE s) by omega]
        exact hq)
      rw [if_pos hk, h2]
    · rw [if_neg hk]
theorem repL_own : ∀ (l : List Nd) (i : Nat) (sp : Spt) (j : Nat), (∀ p, i ≤ n → (plL l i sp j)[n - i]? = some p → p.1 = y) → edL (repE (n : Int) [y]) l i = l
  | [], i, sp, j, _ => by rw [edL]
  | x :: l, i, sp, j, h => by
    have lx : ∀ sp, (x.plS i sp).length = x.nuS := fun sp => (plS_kt x _ _).2
    have hp := h
    rw [plL] at hp
    try dsimp only at hp
    rw [lx] at hp
    rw [edL, repS_own x i { sp with index := j, size := szL [x] } fun q hi hq => hp q hi (by
      have hl : n - i < (x.plS i { sp with index := j, size := szL [x] }).length := (List.getElem?_eq_some_iff.1 hq).1
      rw [List.getElem?_append_left hl]
      exact hq), repL_own l (i + x.nuS) sp (j + 1) fun q hi hq => hp q (by omega) (by
      rw [List.getElem?_append_right (by rw [lx]; omega), lx, show n - i - x.nuS = n - (i + x.nuS) by omega]
      exact hq)]
    rfl
theorem repE_own : ∀ (l : List Nd) (i : Nat) (sp : Spt), (∀ p, i ≤ n → (plE l i sp)[n - i]? = some p → p.1 = y) → edE (repE (n : Int) [y]) l i = l
  | [], i, sp, _ => by rw [edE]
  | x :: l, i, sp, h => by
    have lx : ∀ sp, (x.plX i sp).length = x.nuX := fun sp => (plX_kt x _ _).2
    have hp := h
    rw [plE] at hp
    try dsimp only at hp
    rw [lx] at hp
    rw [edE, repX_own x i sp fun q hi hq => hp q hi (by
      have hl : n - i < (x.plX i sp).length := (List.getElem?_eq_some_iff.1 hq).1
      rw [List.getElem?_append_left hl]
      exact hq), repE_own l (i + x.nuX) sp fun q hi hq => hp q (by omega) (by
      rw [List.getElem?_append_right (by rw [lx]; omega), lx, show n - i - x.nuX = n - (i + x.nuX) by omega]
      exact hq)]
end
theorem repF_own : ∀ (fs : List Fu) (i j : Nat), (∀ p, i ≤ n → (plF i j fs)[n - i]? = some p → p.1 = y) → edF (repE (n : Int) [y]) fs i = fs
  | [], i, j, _ => by rw [edF]
  | f :: fs, i, j, h => by
    have lb : ∀ sp q, (plL f.body i sp q).length = nuL f.body := fun sp q => (plL_kt f.body _ _ _).2
    have hp := h
    rw [plF] at hp
    try dsimp only at hp
    rw [lb] at hp
    rw [edF, repL_own f.body i { func := j, fn := false, parent := -1, part := 0, index := 0, size := 0 } 0 fun q hi hq => hp q hi (by
      have hl : n - i < (plL f.body i { func := j, fn := false, parent := -1, part := 0, index := 0, size := 0 } 0).length := (List.getElem?_eq_some_iff.1 hq).1
      rw [List.getElem?_append_left hl]
      exact hq), repF_own fs (i + nuL f.body) (j + 1) fun q hi hq => hp q (by omega) (by
      rw [List.getElem?_append_right (by rw [lb]; omega), lb, show n - i - nuL f.body = n - (i + nuL f.body) by omega]
      exact hq)]
end
theorem own_place {fs : List Fu} {n : Int} {p : Plc} (hs : shapeP fs = 0) (hp : findP fs n = some p) : replaceO fs n [p.1] = (fs, 0) := by
 obtain ⟨h0, hpl⟩ := findP_mem hp
 have hn : n = (n.toNat : Int) := by omega
 have he : edF (repE n [p.1]) fs 0 = fs := by
  rw [hn]
  exact repF_own fs 0 0 fun q _ hq => by
   rw [Nat.sub_zero] at hq
   have : (placesP fs)[n.toNat]? = some q := hq
   rw [hpl] at this
   injection this with this
   rw [this]
 rw [rep_ok hs hp (by rw [he]; exact hs), he]
theorem all_kept {fs : List Fu} (hs : shapeP fs = 0) : keepO fs (List.replicate (nuF fs) true) = (fs, 0) := by
 rw [keep_ok hs (by rw [List.length_replicate, count_nu hs])]
 rw [edF_id (N := nuF fs) (keep_all_ed fun i hi => by simp [hi]) fs 0 (by omega)]
end

/- Which statements are there when some are kept: plain. -/
section
open Go.RowKit
set_option linter.unusedSimpArgs false
def pick {α : Type} (T : Nat → Bool) : List α → Nat → List α
 | [], _ => []
 | x :: l, i => if T i then x :: pick T l (i + 1) else pick T l (i + 1)
theorem pick_app {α : Type} (T : Nat → Bool) : ∀ (l m : List α) (i : Nat), pick T (l ++ m) i = pick T l i ++ pick T m (i + l.length)
  | [], m, i => by rw [List.nil_append, pick]; rfl
  | x :: l, m, i => by
    rw [List.cons_append, pick, pick, pick_app T l m, List.length_cons, Nat.add_right_comm i 1, Nat.add_assoc]
    split
    · rfl
    · rfl
def alv (T : Nat → Bool) (z : Int) : Bool := decide (z < 0) || T z.toNat
def Thr (kp : List Bool) (T : Nat → Bool) (i : Nat) (ps : List Plc) : Prop := ∀ (q : Nat) (p : Plc), ps[q]? = some p → T (i + q) = (kp[i + q]?.getD false && alv T p.2.parent)
theorem Thr.left {kp : List Bool} {T : Nat → Bool} {i : Nat} {a b : List Plc} (h : Thr kp T i (a ++ b)) : Thr kp T i a := fun q p hq => h q p (by rw [List.getElem?_append_left (List.getElem?_eq_some_iff.1 hq).1]; exact hq)
theorem Thr.right {kp : List Bool} {T : Nat → Bool} {i n : Nat} {a b : List Plc} (h : Thr kp T i (a ++ b)) (hn : a.length = n) : Thr kp T (i + n) b := fun q p hq => by
 have := h (n + q) p (by rw [List.getElem?_append_right (by omega), hn, Nat.add_sub_cancel_left]; exact hq)
 rw [← Nat.add_assoc] at this
 exact this
theorem ktS_len (x : Nd) : x.ktS.length = x.nuS := by
 rw [← (plS_kt x 0 { func := 0, fn := false, parent := 0, part := 0, index := 0, size := 0 }).1, List.length_map, (plS_kt x 0 _).2]
theorem ktX_len (x : Nd) : x.ktX.length = x.nuX := by
 rw [← (plX_kt x 0 { func := 0, fn := false, parent := 0, part := 0, index := 0, size := 0 }).1, List.length_map, (plX_kt x 0 _).2]
theorem ktL_len (l : List Nd) : (ktL l).length = nuL l := by
 rw [← (plL_kt l 0 { func := 0, fn := false, parent := 0, part := 0, index := 0, size := 0 } 0).1, List.length_map, (plL_kt l 0 _ 0).2]
theorem ktE_len (l : List Nd) : (ktE l).length = nuE l := by
 rw [← (plE_kt l 0 { func := 0, fn := false, parent := 0, part := 0, index := 0, size := 0 }).1, List.length_map, (plE_kt l 0 _).2]
section
variable {kp : List Bool} {T : Nat → Bool}
mutual
theorem pickS : ∀ (x : Nd) (i : Nat) (sp : Spt), Thr kp T i (x.plS i sp) → (alv T sp.parent = true → ktL (x.edS (keepE kp) i) = pick T x.ktS i) ∧ (alv T sp.parent = false → pick T x.ktS i = [])
  | .mk k t m s p b e, i, sp, h => by
    have hT := h 0 (.mk k t m s p b e, sp) (by rw [Nd.plS]; rfl)
    rw [Nat.add_zero] at hT
    dsimp only at hT
    rw [Nd.plS] at h
    try dsimp only at h
    rw [(plE_kt s _ _).2, (plL_kt b _ _ _).2] at h
    have h' := Thr.right (a := [(.mk k t m s p b e, sp)]) (n := 1) h rfl
    have hE := pickE s (i + 1) _ h'.left.left
    have hB := pickL b (i + 1 + nuE s) _ 0 (h'.left.right (plE_kt s _ _).2)
    have hL := pickL e (i + 1 + nuE s + nuL b) _ 0 (by
      have := h'.right (n := nuE s + nuL b) (by rw [List.length_append, (plE_kt s _ _).2, (plL_kt b _ _ _).2])
      rw [← Nat.add_assoc] at this
      exact this)
    have ha : alv T (i : Int) = T i := by unfold alv; rw [decide_eq_false (by omega)]; simp
    dsimp only at hE hB hL
    rw [ha] at hE hB hL
    have hpk : pick T (Nd.mk k t m s p b e).ktS i = (if T i then (k, t, s.length) :: (pick T (ktE s) (i + 1) ++ pick T (ktL b) (i + 1 + nuE s) ++ pick T (ktL e) (i + 1 + nuE s + nuL b)) else pick T (ktE s) (i + 1) ++ pick T (ktL b) (i + 1 + nuE s) ++ pick T (ktL e) (i + 1 + nuE s + nuL b)) := by
      rw [Nd.ktS, pick, pick_app, pick_app, List.length_append, ktE_len, ktL_len, ← Nat.add_assoc]
    refine ⟨fun hg => ?_, fun hg => ?_⟩
    · rw [hg, Bool.and_true] at hT
      rw [hpk, Nd.edS]
      unfold keepE
      cases hti : T i with
      | true =>
        rw [hti] at hT hE hB hL
        rw [if_pos hT.symm, if_pos rfl, ktL, ktL, Nd.ktS, List.append_nil]
        have e1 : (edE (keepE kp) s (i + 1)).length = s.length := edE_len _ _ _
        have := hE.1 rfl
        have := hB.1 rfl
        have := hL.1 rfl
        unfold keepE at *
        rw [e1]
        simp_all
      | false =>
        rw [hti] at hT hE hB hL
        rw [if_neg (by rw [← hT]; simp), if_neg (by simp), ktL, hE.2 rfl, hB.2 rfl, hL.2 rfl]
        rfl
    · rw [hg, Bool.and_false] at hT
      rw [hT] at hE hB hL
      rw [hpk, hT, if_neg (by simp), hE.2 rfl, hB.2 rfl, hL.2 rfl]
      rfl
theorem pickX : ∀ (x : Nd) (i : Nat) (sp : Spt), Thr kp T i (x.plX i sp) → (alv T sp.parent = true → (x.edX (keepE kp) i).ktX = pick T x.ktX i) ∧ (alv T sp.parent = false → pick T x.ktX i = [])
  | .mk k t m s p b e, i, sp, h => by
    rw [Nd.plX] at h
    try dsimp only at h
    rw [(plE_kt s _ _).2] at h
    have hE := pickE s i sp h.left
    have hpk : pick T (Nd.mk k t m s p b e).ktX i = pick T (ktE s) i ++ pick T (if k = 10 then ktL b else []) (i + nuE s) := by
      rw [Nd.ktX, pick_app, ktE_len]
    by_cases hk : k = 10
    · rw [if_pos hk] at h hpk
      have hB := pickL b (i + nuE s) _ 0 (h.right (plE_kt s _ _).2)
      dsimp only at hB
      refine ⟨fun hg => ?_, fun hg => ?_⟩
      · rw [hpk, Nd.edX, Nd.ktX, if_pos hk, if_pos hk, hE.1 hg, hB.1 hg]
      · rw [hpk, hE.2 hg, hB.2 hg]; rfl
    · rw [if_neg hk] at h hpk
      refine ⟨fun hg => ?_, fun hg => ?_⟩
      · rw [hpk, Nd.edX, Nd.ktX, if_neg hk, hE.1 hg, pick]
      · rw [hpk, hE.2 hg, pick]; rfl
theorem pickL : ∀ (l : List Nd) (i : Nat) (sp : Spt) (j : Nat), Thr kp T i (plL l i sp j) → (alv T sp.parent = true → ktL (edL (keepE kp) l i) = pick T (ktL l) i) ∧ (alv T sp.parent = false → pick T (ktL l) i = [])
  | [], i, sp, j, h => by rw [edL, ktL, pick]; exact ⟨fun _ => rfl, fun _ => rfl⟩
  | x :: l, i, sp, j, h => by
    rw [plL] at h
    try dsimp only at h
    rw [(plS_kt x _ _).2] at h
    have hS := pickS x i _ h.left
    have hL := pickL l (i + x.nuS) sp (j + 1) (h.right (plS_kt x _ _).2)
    dsimp only at hS
    rw [edL, ktL_app, ktL, pick_app, ktS_len]
    exact ⟨fun hg => by rw [hS.1 hg, hL.1 hg], fun hg => by rw [hS.2 hg, hL.2 hg]; rfl⟩
theorem pickE : ∀ (l : List Nd) (i : Nat) (sp : Spt), Thr kp T i (plE l i sp) → (alv T sp.parent = true → ktE (edE (keepE kp) l i) = pick T (ktE l) i) ∧ (alv T sp.parent = false → pick T (ktE l) i = [])
  | [], i, sp, h => by rw [edE, ktE, pick]; exact ⟨fun _ => rfl, fun _ => rfl⟩
  | x :: l, i, sp, h => by
    rw [plE] at h
    try dsimp only at h
    rw [(plX_kt x _ _).2] at h
    have hS := pickX x i sp h.left
    have hL := pickE l (i + x.nuX) sp (h.right (plX_kt x _ _).2)
    rw [edE, ktE, ktE, pick_app, ktX_len]
    exact ⟨fun hg => by rw [hS.1 hg, hL.1 hg], fun hg => by rw [hS.2 hg, hL.2 hg]; rfl⟩
end
theorem pickF : ∀ (fs : List Fu) (i j : Nat), Thr kp T i (plF i j fs) → ktF (edF (keepE kp) fs i) = pick T (ktF fs) i
  | [], i, j, h => by rw [edF]; rfl
  | f :: fs, i, j, h => by
    have e1 : ∀ (g : Fu) gs, ktF (g :: gs) = ktL g.body ++ ktF gs := fun g gs => by simp [ktF]
    rw [plF] at h
    try dsimp only at h
    rw [(plL_kt f.body _ _ _).2] at h
    have hL := pickL f.body i _ 0 h.left
    have hF := pickF fs (i + nuL f.body) (j + 1) (h.right (plL_kt f.body _ _ _).2)
    rw [edF, e1, e1, pick_app, ktL_len, hF]
    dsimp only at hL ⊢
    rw [hL.1 (by unfold alv; simp)]
end
def Par (i : Nat) (ps : List Plc) : Prop := ∀ (q : Nat) (p : Plc), ps[q]? = some p → -1 ≤ p.2.parent ∧ p.2.parent < (i : Int) + q
theorem Par.app {i n : Nat} {a b : List Plc} (ha : Par i a) (hb : Par (i + n) b) (hn : a.length = n) : Par i (a ++ b) := fun q p hq => by
 rcases Nat.lt_or_ge q a.length with h | h
 ·rw [List.getElem?_append_left h] at hq
  exact ha q p hq
 ·rw [List.getElem?_append_right h] at hq
  have := hb _ p hq
  omega
mutual
theorem parS : ∀ (x : Nd) (i : Nat) (sp : Spt), -1 ≤ sp.parent → sp.parent < i → Par i (x.plS i sp)
  | .mk k t m s p b e, i, sp, h0, h => by
    rw [Nd.plS]
    try dsimp only
    rw [(plE_kt s _ _).2, (plL_kt b _ _ _).2]
    refine Par.app (a := [(.mk k t m s p b e, sp)]) (n := 1) (fun q r hq => ?_) (((parE s (i + 1) _ (by dsimp only; omega) (by dsimp only; omega)).app (parL b (i + 1 + nuE s) _ 0 (by dsimp only; omega) (by dsimp only; omega)) (plE_kt s _ _).2).app (n := nuE s + nuL b) ?_ (by rw [List.length_append, (plE_kt s _ _).2, (plL_kt b _ _ _).2])) rfl
    · cases q with
      | zero => simp at hq; subst hq; exact ⟨h0, by simpa using h⟩
      | succ q => simp at hq
    · rw [← Nat.add_assoc]
      exact parL e (i + 1 + nuE s + nuL b) _ 0 (by dsimp only; omega) (by dsimp only; omega)
theorem parX : ∀ (x : Nd) (i : Nat) (sp : Spt), -1 ≤ sp.parent → sp.parent < i → Par i (x.plX i sp)
  | .mk k t m s p b e, i, sp, h0, h => by
    rw [Nd.plX]
    try dsimp only
    rw [(plE_kt s _ _).2]
    refine (parE s i sp h0 h).app (n := nuE s) ?_ (plE_kt s _ _).2
    split
    · exact parL b (i + nuE s) _ 0 h0 (by dsimp only; omega)
    · intro q p hq; simp at hq
theorem parL : ∀ (l : List Nd) (i : Nat) (sp : Spt) (j : Nat), -1 ≤ sp.parent → sp.parent < i → Par i (plL l i sp j)
  | [], i, sp, j, h0, h => by rw [plL]; intro q p hq; simp at hq
  | x :: l, i, sp, j, h0, h => by
    rw [plL]
    try dsimp only
    rw [(plS_kt x _ _).2]
    exact (parS x i { sp with index := j, size := szL [x] } h0 h).app (parL l (i + x.nuS) sp (j + 1) h0 (by omega)) (plS_kt x _ _).2
theorem parE : ∀ (l : List Nd) (i : Nat) (sp : Spt), -1 ≤ sp.parent → sp.parent < i → Par i (plE l i sp)
  | [], i, sp, h0, h => by rw [plE]; intro q p hq; simp at hq
  | x :: l, i, sp, h0, h => by
    rw [plE]
    try dsimp only
    rw [(plX_kt x _ _).2]
    exact (parX x i sp h0 h).app (parE l (i + x.nuX) sp h0 (by omega)) (plX_kt x _ _).2
end
theorem parF : ∀ (fs : List Fu) (i j : Nat), Par i (plF i j fs)
  | [], i, j => by rw [plF]; intro q p hq; simp at hq
  | f :: fs, i, j => by
    rw [plF]
    try dsimp only
    rw [(plL_kt f.body _ _ _).2]
    exact (parL f.body i _ 0 (by dsimp only; omega) (by dsimp only; omega)).app (parF fs (i + nuL f.body) (j + 1)) (plL_kt f.body _ _ _).2
def thr (kp : List Bool) (par : Nat → Int) (i : Nat) : Bool := kp[i]?.getD false && (decide (par i < 0) || (if h : (par i).toNat < i then thr kp par (par i).toNat else false))
termination_by i
def nth (T : Nat → Bool) : Nat → Nat
 | 0 => 0
 | i + 1 => nth T i + if T i then 1 else 0
theorem pick_len {α : Type} (T : Nat → Bool) : ∀ (l : List α) (i : Nat), nth T (i + l.length) = nth T i + (pick T l i).length
  | [], i => by rw [pick]; rfl
  | x :: l, i => by
    rw [pick, List.length_cons, show i + (l.length + 1) = i + 1 + l.length by omega, pick_len T l (i + 1), nth]
    split
    · simp; omega
    · simp
theorem pick_at {α : Type} (T : Nat → Bool) : ∀ (l : List α) (i q : Nat) (x : α), l[q]? = some x → T (i + q) = true → (pick T l i)[nth T (i + q) - nth T i]? = some x ∧ nth T i ≤ nth T (i + q)
  | [], i, q, x, h, _ => by simp at h
  | y :: l, i, 0, x, h, hT => by
    simp at h
    subst h
    rw [Nat.add_zero] at hT ⊢
    rw [pick, if_pos hT, Nat.sub_self]
    exact ⟨rfl, Nat.le_refl _⟩
  | y :: l, i, q + 1, x, h, hT => by
    have e : i + (q + 1) = i + 1 + q := by omega
    rw [e] at hT ⊢
    obtain ⟨h1, h2⟩ := pick_at T l (i + 1) q x (by simpa using h) hT
    rw [pick]
    rw [nth] at h1 h2
    by_cases ht : T i = true
    · rw [if_pos ht] at h1 h2 ⊢
      refine ⟨?_, by omega⟩
      rw [show nth T (i + 1 + q) - nth T i = nth T (i + 1 + q) - (nth T i + 1) + 1 by omega, List.getElem?_cons_succ]
      exact h1
    · rw [if_neg ht] at h1 h2 ⊢
      exact ⟨h1, by omega⟩
theorem kept_law {fs : List Fu} {kp : List Bool} (hs : shapeP fs = 0) (hk : kp.length = nuF fs) :
  keepO fs kp = (edF (keepE kp) fs 0, 0) ∧ shapeP (edF (keepE kp) fs 0) = 0 ∧ ∃ T : Nat → Bool,
   (∀ i, i < nuF fs → ∃ p, findP fs (i : Int) = some p ∧ -1 ≤ p.2.parent ∧ p.2.parent < i ∧ T i = (kp[i]?.getD false && alv T p.2.parent)) ∧
   countP (edF (keepE kp) fs 0) = nth T (nuF fs) ∧ (∀ i, i < nuF fs → T i = true → ∃ a b, findP fs (i : Int) = some a ∧ findP (edF (keepE kp) fs 0) (nth T i : Nat) = some b ∧ a.1.kind = b.1.kind ∧ a.1.text = b.1.text ∧ a.1.subs.length = b.1.subs.length) := by
 have hs2 : shapeP (edF (keepE kp) fs 0) = 0 := shape_ed (fun i y f hk hy => by
   unfold keepE
   split
   ·rw [lsB, lsB, hk, hy]; rfl
   ·rfl) (fun i y => by
   unfold keepE
   split
   ·rw [depL, depL]; omega
   ·exact Nat.zero_le _) (keepE_cnt kp) hs 0
 have hl : (placesP fs).length = nuF fs := (plF_kt fs 0 0).2
 have hpar := parF fs 0 0
 obtain ⟨par, hpr⟩ : ∃ par : Nat → Int, ∀ i p, (placesP fs)[i]? = some p → par i = p.2.parent := ⟨fun i => match (placesP fs)[i]? with | some p => p.2.parent | none => -1, fun i p h => by simp only [h]⟩
 have hT : ∀ (q : Nat) (p : Plc), (placesP fs)[q]? = some p → thr kp par q = (kp[q]?.getD false && alv (thr kp par) p.2.parent) := fun q p hq => by
  obtain ⟨h1, h2⟩ := hpar q p hq
  rw [thr, hpr q p hq]
  unfold alv
  congr 1
  by_cases hz : p.2.parent < 0
  ·rw [decide_eq_true hz]; rfl
  ·rw [dif_pos (by omega)]
 have hThr : Thr kp (thr kp par) 0 (plF 0 0 fs) := fun q p hq => by rw [Nat.zero_add]; exact hT q p hq
 have hpk := pickF fs 0 0 hThr
 have hkl : (ktF fs).length = nuF fs := by rw [← (plF_kt fs 0 0).1, List.length_map, (plF_kt fs 0 0).2]
 refine ⟨keep_ok hs (by rw [count_nu hs, hk]), hs2, thr kp par, fun i hi => ?_, ?_, fun i hi ht => ?_⟩
 ·have hg := List.getElem?_eq_getElem (l := placesP fs) (i := i) (by omega)
  obtain ⟨h1, h2⟩ := hpar i _ hg
  exact ⟨_, by unfold findP; rw [if_pos (by omega)]; exact hg, h1, by omega, hT i _ hg⟩
 ·rw [count_nu hs2]
  have h1 : (ktF (edF (keepE kp) fs 0)).length = nuF (edF (keepE kp) fs 0) := by rw [← (plF_kt _ 0 0).1, List.length_map, (plF_kt _ 0 0).2]
  have h2 := pick_len (thr kp par) (ktF fs) 0
  rw [Nat.zero_add, hkl, nth, Nat.zero_add, ← hpk, h1] at h2
  rw [h2]
 ·have hg := List.getElem?_eq_getElem (l := placesP fs) (i := i) (by omega)
  have hkt : (ktF fs)[i]? = some (ktP ((placesP fs)[i])) := by rw [← (plF_kt fs 0 0).1, List.getElem?_map]; show ((placesP fs)[i]?).map ktP = _; rw [hg]; rfl
  obtain ⟨h1, _⟩ := pick_at (thr kp par) (ktF fs) 0 i _ hkt (by rw [Nat.zero_add]; exact ht)
  rw [Nat.zero_add, nth, Nat.sub_zero, ← hpk, ← (plF_kt _ 0 0).1, List.getElem?_map] at h1
  obtain ⟨b, hb, hbe⟩ := Option.map_eq_some_iff.1 h1
  refine ⟨_, b, by unfold findP; rw [if_pos (by omega)]; exact hg, by unfold findP; rw [if_pos (by omega)]; exact hb, ?_, ?_, ?_⟩
  ·exact (congrArg (fun z : Kt => z.1) hbe).symm
  ·exact (congrArg (fun z : Kt => z.2.1) hbe).symm
  ·exact (congrArg (fun z : Kt => z.2.2) hbe).symm
end

end Go.Proofs.YtchldahkcpbgcaaGreatDoor
