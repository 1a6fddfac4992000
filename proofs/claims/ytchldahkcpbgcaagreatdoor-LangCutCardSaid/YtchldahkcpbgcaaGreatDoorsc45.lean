/- Texts of this seat, one behind the other: Rpl, CutP. -/
import Derived.Test.YtchldahkcpbgcaaGreatDoorsc44
import Derived.Test.YtchldahkcpbgcaaGreatDoorsc24
import Derived.Test.YtchldahkcpbgcaaGreatDoorsc43
namespace Go.Proofs.YtchldahkcpbgcaaGreatDoor
set_option linter.unusedVariables false

/- Replace. -/
section
open Go.RowKit
set_option linter.unusedSimpArgs false
def replaceO (fs : List Fu) (n : Int) (wt : List Nd) : List Fu × Int :=
 if shapeP fs ≠ 0 then ([], shapeP fs) else match findP fs n with
  | none => ([], 7)
  | some _ => if shapeP (edF (repE n wt) fs 0) ≠ 0 then ([], shapeP (edF (repE n wt) fs 0)) else (edF (repE n wt) fs 0, 0)
theorem rep_bad {fs : List Fu} {n : Int} {wt : List Nd} (h : shapeP fs ≠ 0) : replaceO fs n wt = ([], shapeP fs) := by unfold replaceO; rw [if_pos h]
theorem rep_none {fs : List Fu} {n : Int} {wt : List Nd} (h : shapeP fs = 0) (h1 : findP fs n = none) : replaceO fs n wt = ([], 7) := by unfold replaceO; rw [if_neg (by simp [h]), h1]
theorem rep_shape {fs : List Fu} {n : Int} {wt : List Nd} {p : Plc} (h : shapeP fs = 0) (h1 : findP fs n = some p) (h2 : shapeP (edF (repE n wt) fs 0) ≠ 0) : replaceO fs n wt = ([], shapeP (edF (repE n wt) fs 0)) := by unfold replaceO; rw [if_neg (by simp [h]), h1]; simp only; rw [if_pos h2]
theorem rep_ok {fs : List Fu} {n : Int} {wt : List Nd} {p : Plc} (h : shapeP fs = 0) (h1 : findP fs n = some p) (h2 : shapeP (edF (repE n wt) fs 0) = 0) : replaceO fs n wt = (edF (repE n wt) fs 0, 0) := by unfold replaceO; rw [if_neg (by simp [h]), h1]; simp only; rw [if_neg (by simp [h2])]
def RetPE (w : World) (r : List Fu × Int) (en : Ending) (w' : World) : Prop := ∃ A c m, en = .returned (.tuple #[.agg #[.slice A r.1.length c], .int .i64 r.2]) ∧ RF (Bel w) m w' A c r.1 ∧ Fr [] w w'
theorem RetPE.err {w w' : World} {r : List Fu × Int} {e : Int} {en : Ending} (hr : r = ([], e)) (hf : Fr [] w w') (he : en = .returned (.tuple #[.agg #[.slice none 0 0], .int .i64 e])) : RetPE w r en w' := by
 subst hr
 exact ⟨none, 0, 1, he, RF.nil_ _ _ _, hf⟩
theorem results_progE {fn : Func} {p t : Tmp} (h : fn.results = #[.cell p 25, .tmp t]) (tmps : Array Value) (w : World) (g : Nat) {a0 : Value} (hp : tmps.getD p undef = .pointer (some ⟨g, 0, none⟩)) (hb : Blk w g 25 #[a0]) :
  (results fn tmps).run Tryz.prog w = .ok (.tuple #[.agg #[a0], tmps.getD t undef]) w := by
 have c0 := hb.cell 0 rfl
 simp only [Array.getD_eq_getD_getElem?] at hp
 simp [results, h, go_sem, hp, c0]
theorem shape_small {fs : List Fu} (h : shapeP fs = 0) : cntF fs ≤ 1024 ∧ fs.length ≤ 16 := by
 unfold shapeP at h
 split at h
 ·exact absurd h (by decide)
 ·split at h
  ·exact absurd h (by decide)
  ·omega
set_option maxHeartbeats 3200000 in
set_option maxRecDepth 20000 in
theorem Replace_any {S S' : Nat → Prop} {k nw : Nat} {A Aw : Option Addr} {c cw : Nat} {fs : List Fu} {wt : List Nd} {w : World} (n : Int) (hR : RF S k w A c fs) (hW : LN S' nw w Aw cw wt) (hb : cntF fs ≤ 1000000000) (ht : TxF fs) (hwl : wt.length ≤ 9000) (hwc : cntL wt ≤ 9000) (hwp : ppL wt) (hwt : TxL wt) :
  Calls Tryz.prog 28 #[.agg #[.slice A fs.length c], .int .i64 n, .slice Aw wt.length cw] w (RetPE w (replaceO fs n wt)) := by
 obtain ⟨pb, hpb⟩ : ∃ g, g = w.heap.size := ⟨_, rfl⟩
 have HPB := Lib.hid hpb
 obtain ⟨r, hr⟩ : ∃ r, replaceO fs n wt = r := ⟨_, rfl⟩
 rw [hr]
 have HR := Lib.hid hr
 clear hpb hr
 go_enter Tryz.func28, Tryz.ntmps28
 go_upto_region 1 with fail
 have hpb := HPB.out
 rw [← hpb]
 refine wp_hide (fun W hV => ?_)
 have hf0 : Fr [] w W := by rw [hV]; exact frx
 have hP : Blk W pb 25 #[.slice A fs.length c] := by rw [hV]; exact (((Blk.new _ _ _ _ hpb).alloc _).alloc _).alloc _
 have hN : Blk W (pb + 1) 3 #[.int .i64 n] := by rw [hV]; exact ((Blk.new _ _ _ _ (by simp [hpb])).alloc _).alloc _
 have hX : Blk W (pb + 1 + 1) 43 #[.slice Aw wt.length cw] := by rw [hV]; exact (Blk.new _ _ _ _ (by simp [hpb])).alloc _
 have hZ : Blk W (pb + 1 + 1 + 1) 25 #[.slice none 0 0] := by rw [hV]; exact Blk.new _ _ _ _ (by simp [hpb])
 have hWs : W.heap.size = pb + 4 := by rw [hV, hpb]; simp
 have hpw : w.heap.size ≤ pb := by omega
 clear hV hpb
 have HF := Lib.hid (find_any pb n A c fs S k W hP (hR.fr0 hf0) hb ht)
 have hRW := hR.fr0 hf0
 have hWW := hW.fr0 hf0
 have n0 : W.cell? ⟨pb + 1, 0, none⟩ = some (.int .i64 n) := hN.cell 0 rfl
 go_wp2_with fail
 refine HF.out.mono ?_
 rintro e w1 hfd
 obtain ⟨hf1, hcase⟩ := find_open hRW hfd
 have hZ1 := hZ.fr hf1 (by simp)
 have hw1 := hf0.trans hf1
 have hzl := hZ1.lt
 clear hfd HF hZ n0
 rcases hcase with ⟨hs, rfl⟩ | ⟨hs, hfp, rfl⟩ | ⟨hs, p, b, o, hd, m, hfp, rfl, hNd, hH, _, _⟩
 ·obtain ⟨sh, hsh⟩ : ∃ z, shapeP fs = z := ⟨_, rfl⟩
  have HX := Lib.hid (HR.out.symm.trans (rep_bad hs))
  rw [hsh] at hs HX ⊢
  have ez : (sh != 0) = true := by simpa using hs
  clear hsh hs
  go_upto_region 2 with fail
  refine wp_hide (fun M hM => ?_)
  have hfM : Fr [] w1 M := by rw [hM]; exact frx
  have hZM := hZ1.fr hfM (by simp)
  have hwM := hw1.trans hfM
  clear hM hZ1 hfM
  have z0 : M.cell? ⟨pb + 1 + 1 + 1, 0, none⟩ = some (.slice none 0 0) := hZM.cell 0 rfl
  have zz := hZM.frozen 0
  go_wp2
  refine bodyPost_ret (results_progE rfl _ _ (pb + 1 + 1 + 1) rfl (a0 := .slice none 0 0) (by simpa using hZM.set_ 0 (.slice none 0 0))) rfl ?_
  exact RetPE.err HX.out (hwM.trans2 (fr_put M _ 0 _) (fun q hq => .inr (by simp at hq; omega))) rfl
 ·have HX := Lib.hid (HR.out.symm.trans (rep_none hs hfp))
  clear hs hfp
  go_upto_region 2 with fail
  refine wp_hide (fun M hM => ?_)
  have hfM : Fr [] w1 M := by rw [hM]; exact frx
  have hZM := hZ1.fr hfM (by simp)
  have hwM := hw1.trans hfM
  clear hM hZ1 hfM
  have z0 : M.cell? ⟨pb + 1 + 1 + 1, 0, none⟩ = some (.slice none 0 0) := hZM.cell 0 rfl
  have zz := hZM.frozen 0
  go_wp2
  refine bodyPost_ret (results_progE rfl _ _ (pb + 1 + 1 + 1) rfl (a0 := .slice none 0 0) (by simpa using hZM.set_ 0 (.slice none 0 0))) rfl ?_
  exact RetPE.err HX.out (hwM.trans2 (fr_put M _ 0 _) (fun q hq => .inr (by simp at hq; omega))) rfl
 ·obtain ⟨hc1, hc2⟩ := shape_small hs
  have hpp := shape_pp hs
  have HS := Lib.hid hs
  have HFP := Lib.hid hfp
  clear hs hfp hNd hH
  go_upto_region 2 with fail
  refine wp_hide (fun M hM => ?_)
  have hfM : Fr [] w1 M := by rw [hM]; exact frx
  have hZM := hZ1.fr hfM (by simp)
  have hwM := hw1.trans hfM
  have hWM := hf1.trans hfM
  clear hM hZ1
  have hPM : M.cell? ⟨pb, 0, none⟩ = some (.slice A fs.length c) := (hP.fr hWM (by simp)).cell 0 rfl
  have hNM : M.cell? ⟨pb + 1, 0, none⟩ = some (.int .i64 n) := (hN.fr hWM (by simp)).cell 0 rfl
  have hXM : M.cell? ⟨pb + 1 + 1, 0, none⟩ = some (.slice Aw wt.length cw) := (hX.fr hWM (by simp)).cell 0 rfl
  have hzM := hZM.lt
  have hLM : LN (upB M.heap.size) nw M Aw cw wt := (hWW.fr0 hWM).sub (fun b hb h => absurd h (by unfold upB; omega))
  have HC := Lib.hid (edC_repl (KK := nuF fs) hNM hXM hLM (by omega) (by omega) hwl)
  have HRB := Lib.hid (rebuilt_any pb _ _ nw (nuF fs) _ (repE n wt) (hRW.fr0 hWM) hPM HC.out (by omega) (by omega) (Nat.le_refl _) (fun g hg => by have := (hpp g hg).2; omega) (fun g hg i => ⟨by
   have h1 := edL_cnt (C := cntL wt) (repE_cnt n wt) g.body i
   have h2 := cntL_of hg
   have h3 : (cntL wt + 1) * cntL g.body ≤ 9001 * 1024 := Nat.mul_le_mul (by omega) (by omega)
   omega, edL_pp (repE_pp hwp) _ _ (hpp g hg).1⟩))
  have hqc : cntF (edF (repE n wt) fs 0) ≤ 1000000000 := by
   have h1 := edF_cnt (C := cntL wt) (repE_cnt n wt) fs 0
   have h3 : (cntL wt + 1) * cntF fs ≤ 9001 * 1024 := Nat.mul_le_mul (by omega) (by omega)
   omega
  have hqt : TxF (edF (repE n wt) fs 0) := edF_tx (fun i y hy => repE_tx ((txL_iff _).2 hwt) i y hy) fs 0 ht
  obtain ⟨q, hq⟩ : ∃ q, edF (repE n wt) fs 0 = q := ⟨_, rfl⟩
  have HQ := Lib.hid hq
  rw [hq] at HRB hqc hqt
  clear hq HC hLM hNM hXM hPM hpp
  go_wp2_with fail
  refine HRB.out.mono ?_
  rintro e w3 ⟨A3, c3, rfl, hR3, hf3⟩
  have hZ3 := hZM.fr hf3 (by simp)
  have hw3 := hwM.trans hf3
  have hz3 := hZ3.lt
  obtain ⟨gq, hgq⟩ : ∃ g, g = w3.heap.size := ⟨_, rfl⟩
  go_upto_region 5 with fail
  rw [← hgq]
  refine wp_hide (fun M4 hM4 => ?_)
  have hf4 : Fr [] w3 M4 := by rw [hM4]; exact frx
  have hQ4 : Blk M4 gq 25 #[.slice A3 q.length c3] := by rw [hM4]; exact Blk.new _ _ _ _ hgq
  have hZ4 := hZ3.fr hf4 (by simp)
  have hw4 := hw3.trans hf4
  have hR4 := hR3.fr0 hf4
  have q4 : M4.cell? ⟨gq, 0, none⟩ = some (.slice A3 q.length c3) := hQ4.cell 0 rfl
  have HSH := Lib.hid (Shape_any A3 c3 q _ _ M4 hR4 hqc hqt)
  have hgz : pb + 1 + 1 + 1 ≠ gq := by omega
  clear hM4 hgq hZM HRB hZ3
  go_wp2_with fail
  refine HSH.out.mono ?_
  rintro e w5 ⟨rfl, hf5⟩
  have hZ5 := hZ4.fr hf5 (by simp)
  have hw5 := hw4.trans hf5
  have hR5 := hR4.fr0 hf5
  have q5 := hf5.cell q4 (by simp)
  have z0 : w5.cell? ⟨pb + 1 + 1 + 1, 0, none⟩ = some (.slice none 0 0) := hZ5.cell 0 rfl
  have zz := hZ5.frozen 0
  have hz5 := hZ5.lt
  have hs5 := hwM.size
  obtain ⟨sq, hsq⟩ : ∃ z, shapeP q = z := ⟨_, rfl⟩
  have HSQ := Lib.hid hsq
  rw [hsq]
  clear hsq q4 hQ4 hZ4
  by_cases hz : sq = 0
  ·subst hz
   have HX := Lib.hid (HR.out.symm.trans (rep_ok HS.out HFP.out (by rw [HQ.out]; exact HSQ.out)))
   rw [HQ.out] at HX
   go_wp2
   refine bodyPost_ret (results_progE rfl _ _ (pb + 1 + 1 + 1) rfl (a0 := .slice A3 q.length c3) (by simpa using hZ5.set_ 0 (.slice A3 q.length c3))) rfl ?_
   have ff := fr_put w5 (pb + 1 + 1 + 1) 0 (.slice A3 q.length c3)
   rw [HX.out]
   exact ⟨A3, c3, _, rfl, (hR5.fr ff (fun b hb => by simp at hb; show b < _; omega)).sub (fun b _ hb => by have : b < w.heap.size := hb; show b < _; omega), hw5.trans2 ff (fun b hb => .inr (by simp at hb; omega))⟩
  ·have HX := Lib.hid (HR.out.symm.trans (rep_shape HS.out HFP.out (by rw [HQ.out, HSQ.out]; exact hz)))
   rw [HQ.out, HSQ.out] at HX
   have ez : (sq != 0) = true := by simpa using hz
   clear hz
   go_wp2
   refine bodyPost_ret (results_progE rfl _ _ (pb + 1 + 1 + 1) rfl (a0 := .slice none 0 0) (by simpa using hZ5.set_ 0 (.slice none 0 0))) rfl ?_
   exact RetPE.err HX.out (hw5.trans2 (fr_put w5 _ 0 _) (fun q hq => .inr (by simp at hq; omega))) rfl
end

/- What a cut does: plain. -/
section
open Go.RowKit
set_option linter.unusedSimpArgs false
abbrev cutE (n : Nat) : Nat → Nd → List Nd := repE (n : Int) []
mutual
theorem edS_same (n : Nat) : ∀ (x : Nd) (i : Nat), ¬ (i ≤ n ∧ n < i + x.nuS) → x.edS (cutE n) i = [x]
  | .mk k t m s p b e, i, h => by
    rw [Nd.nuS] at h
    rw [Nd.edS, edE_same n s _ (by omega), edL_same n b _ (by omega), edL_same n e _ (by omega)]
    show repE (n : Int) [] i _ = _
    unfold repE
    rw [if_neg (by omega)]
theorem edX_same (n : Nat) : ∀ (x : Nd) (i : Nat), ¬ (i ≤ n ∧ n < i + x.nuX) → x.edX (cutE n) i = x
  | .mk k t m s p b e, i, h => by
    rw [Nd.nuX] at h
    rw [Nd.edX, edE_same n s _ (by omega)]
    by_cases hk : k = 10
    · rw [if_pos hk] at h
      rw [if_pos hk, edL_same n b _ (by omega)]
    · rw [if_neg hk]
theorem edL_same (n : Nat) : ∀ (l : List Nd) (i : Nat), ¬ (i ≤ n ∧ n < i + nuL l) → edL (cutE n) l i = l
  | [], i, _ => by rw [edL]
  | x :: l, i, h => by
    rw [nuL] at h
    have h0 : 1 ≤ x.nuS := by rw [Nd.nuS_eq]; omega
    rw [edL, edS_same n x i (by omega), edL_same n l _ (by omega)]
    rfl
theorem edE_same (n : Nat) : ∀ (l : List Nd) (i : Nat), ¬ (i ≤ n ∧ n < i + nuE l) → edE (cutE n) l i = l
  | [], i, _ => by rw [edE]
  | x :: l, i, h => by
    rw [nuE] at h
    rw [edE, edX_same n x i (by omega), edE_same n l _ (by omega)]
end
def CutAt (K : List Kt) (ps : List Plc) (m : Nat) (K' : List Kt) : Prop :=
 ∃ P Q R p, K = P ++ (Q ++ R) ∧ K' = P ++ R ∧ P.length = m ∧ ps[m]? = some p ∧ Q.length = p.1.nuS ∧ p.2.size = p.1.sz
theorem CutAt.ctx {K K' A B : List Kt} {ps pa pb : List Plc} {m q : Nat} (h : CutAt K ps m K') (hp : pa.length = A.length) (hk : ps.length = K.length) (hq : q = A.length + m) : CutAt (A ++ (K ++ B)) (pa ++ (ps ++ pb)) q (A ++ (K' ++ B)) := by
 subst hq
 obtain ⟨P, Q, R, p, rfl, rfl, h1, h2, h3, h4⟩ := h
 refine ⟨A ++ P, Q, R ++ B, p, by simp, by simp, by simp [h1], ?_, h3, h4⟩
 have hm : m < ps.length := (List.getElem?_eq_some_iff.1 h2).1
 rw [List.getElem?_append_right (by omega), hp, Nat.add_sub_cancel_left, List.getElem?_append_left hm]
 exact h2
mutual
theorem cutS (n : Nat) : ∀ (x : Nd) (i : Nat) (sp : Spt), sp.size = x.sz → i ≤ n → n < i + x.nuS → CutAt x.ktS (x.plS i sp) (n - i) (ktL (x.edS (cutE n) i))
  | .mk k t m s p b e, i, sp, hsp, h1, h2 => by
    by_cases hn : i = n
    · have h3 : (Nd.mk k t m s p b e).edS (cutE n) i = [] := by
        rw [Nd.edS]
        show repE (n : Int) [] i _ = _
        unfold repE
        rw [if_pos (by omega)]
      rw [h3, ktL, hn, Nat.sub_self]
      refine ⟨[], (Nd.mk k t m s p b e).ktS, [], (.mk k t m s p b e, sp), by simp, rfl, rfl, by rw [Nd.plS]; rfl, ?_, hsp⟩
      have := plS_kt (Nd.mk k t m s p b e) i sp
      rw [← this.1, List.length_map, this.2]
    · have h3 : (Nd.mk k t m s p b e).edS (cutE n) i = [.mk k t m (edE (cutE n) s (i + 1)) p (edL (cutE n) b (i + 1 + nuE s)) (edL (cutE n) e (i + 1 + nuE s + nuL b))] := by
        rw [Nd.edS]
        show repE (n : Int) [] i _ = _
        unfold repE
        rw [if_neg (by omega)]
      rw [Nd.nuS] at h2
      rw [h3, ktL, ktL, Nd.ktS, Nd.ktS, Nd.plS, List.append_nil, edE_len]
      try dsimp only
      rw [(plE_kt s _ _).2, (plL_kt b _ _ _).2]
      have le : (plE s (i + 1) { func := sp.func, fn := sp.fn, parent := (i : Int), part := 0, index := 0, size := 0 }).length = nuE s := (plE_kt s _ _).2
      have lb : (plL b (i + 1 + nuE s) { func := sp.func, fn := sp.fn, parent := (i : Int), part := 1, index := 0, size := 0 } 0).length = nuL b := (plL_kt b _ _ _).2
      have ll : (plL e (i + 1 + nuE s + nuL b) { func := sp.func, fn := sp.fn, parent := (i : Int), part := 2, index := 0, size := 0 } 0).length = nuL e := (plL_kt e _ _ _).2
      have ke : (ktE s).length = nuE s := by rw [← (plE_kt s 0 sp).1, List.length_map, (plE_kt s 0 sp).2]
      have kb : (ktL b).length = nuL b := by rw [← (plL_kt b 0 sp 0).1, List.length_map, (plL_kt b 0 sp 0).2]
      have kl : (ktL e).length = nuL e := by rw [← (plL_kt e 0 sp 0).1, List.length_map, (plL_kt e 0 sp 0).2]
      by_cases ha : n < i + 1 + nuE s
      · have h4 := cutE' n s (i + 1) { func := sp.func, fn := sp.fn, parent := (i : Int), part := 0, index := 0, size := 0 } (by omega) (by omega)
        rw [edL_same n b _ (by omega), edL_same n e _ (by omega)]
        have := h4.ctx (A := [(k, t, s.length)]) (B := ktL b ++ ktL e) (pa := [(.mk k t m s p b e, sp)]) (pb := plL b (i + 1 + nuE s) { func := sp.func, fn := sp.fn, parent := (i : Int), part := 1, index := 0, size := 0 } 0 ++ plL e (i + 1 + nuE s + nuL b) { func := sp.func, fn := sp.fn, parent := (i : Int), part := 2, index := 0, size := 0 } 0) (q := n - i) rfl (by rw [le, ke]) (by simp; omega)
        simpa [List.append_assoc] using this
      · rw [edE_same n s _ (by omega)]
        by_cases hb : n < i + 1 + nuE s + nuL b
        · have h4 := cutL n b (i + 1 + nuE s) { func := sp.func, fn := sp.fn, parent := (i : Int), part := 1, index := 0, size := 0 } 0 (by omega) (by omega)
          rw [edL_same n e _ (by omega)]
          have := h4.ctx (A := (k, t, s.length) :: ktE s) (B := ktL e) (pa := (.mk k t m s p b e, sp) :: plE s (i + 1) { func := sp.func, fn := sp.fn, parent := (i : Int), part := 0, index := 0, size := 0 }) (pb := plL e (i + 1 + nuE s + nuL b) { func := sp.func, fn := sp.fn, parent := (i : Int), part := 2, index := 0, size := 0 } 0) (q := n - i) (by simp [le, ke]) (by rw [lb, kb]) (by simp [ke]; omega)
          simpa [List.append_assoc] using this
        · rw [edL_same n b _ (by omega)]
          have h4 := cutL n e (i + 1 + nuE s + nuL b) { func := sp.func, fn := sp.fn, parent := (i : Int), part := 2, index := 0, size := 0 } 0 (by omega) (by omega)
          have := h4.ctx (A := (k, t, s.length) :: (ktE s ++ ktL b)) (B := []) (pa := (.mk k t m s p b e, sp) :: (plE s (i + 1) { func := sp.func, fn := sp.fn, parent := (i : Int), part := 0, index := 0, size := 0 } ++ plL b (i + 1 + nuE s) { func := sp.func, fn := sp.fn, parent := (i : Int), part := 1, index := 0, size := 0 } 0)) (pb := []) (q := n - i) (by simp [le, ke, lb, kb]) (by rw [ll, kl]) (by simp [ke, kb]; omega)
          simpa [List.append_assoc] using this
theorem cutX (n : Nat) : ∀ (x : Nd) (i : Nat) (sp : Spt), i ≤ n → n < i + x.nuX → CutAt x.ktX (x.plX i sp) (n - i) (x.edX (cutE n) i).ktX
  | .mk k t m s p b e, i, sp, h1, h2 => by
    rw [Nd.nuX] at h2
    rw [Nd.edX, Nd.ktX, Nd.ktX, Nd.plX]
    try dsimp only
    have le : (plE s i sp).length = nuE s := (plE_kt s _ _).2
    have ke : (ktE s).length = nuE s := by rw [← (plE_kt s 0 sp).1, List.length_map, (plE_kt s 0 sp).2]
    rw [le]
    by_cases ha : n < i + nuE s
    · have h4 := cutE' n s i sp h1 ha
      have hz : (if k = 10 then ktL (if k = 10 then edL (cutE n) b (i + nuE s) else b) else []) = (if k = 10 then ktL b else []) := by
        split
        · rw [edL_same n b _ (by omega)]
        · rfl
      rw [hz]
      have := h4.ctx (A := []) (B := if k = 10 then ktL b else []) (pa := []) (pb := if k = 10 then plL b (i + nuE s) { sp with fn := true, part := 3 } 0 else []) (q := n - i) rfl (by rw [le, ke]) (by simp)
      simpa using this
    · rw [edE_same n s _ (by omega)]
      by_cases hk : k = 10
      · rw [if_pos hk] at h2
        rw [if_pos hk, if_pos hk, if_pos hk, if_pos hk]
        have h4 := cutL n b (i + nuE s) { sp with fn := true, part := 3 } 0 (by omega) (by omega)
        have lb : (plL b (i + nuE s) { sp with fn := true, part := 3 } 0).length = nuL b := (plL_kt b _ _ _).2
        have kb : (ktL b).length = nuL b := by rw [← (plL_kt b 0 sp 0).1, List.length_map, (plL_kt b 0 sp 0).2]
        have := h4.ctx (A := ktE s) (B := []) (pa := plE s i sp) (pb := []) (q := n - i) (by rw [le, ke]) (by rw [lb, kb]) (by rw [ke]; omega)
        simpa using this
      · rw [if_neg hk] at h2
        omega
theorem cutL (n : Nat) : ∀ (l : List Nd) (i : Nat) (sp : Spt) (j : Nat), i ≤ n → n < i + nuL l → CutAt (ktL l) (plL l i sp j) (n - i) (ktL (edL (cutE n) l i))
  | [], i, sp, j, h1, h2 => by rw [nuL] at h2; omega
  | x :: l, i, sp, j, h1, h2 => by
    rw [nuL] at h2
    rw [edL, ktL_app, ktL, plL]
    try dsimp only
    have lx : (x.plS i { sp with index := j, size := szL [x] }).length = x.nuS := (plS_kt x _ _).2
    have kx : x.ktS.length = x.nuS := by rw [← (plS_kt x 0 sp).1, List.length_map, (plS_kt x 0 sp).2]
    have hk : ktL [x] = x.ktS := by rw [ktL, ktL, List.append_nil]
    rw [lx]
    by_cases ha : n < i + x.nuS
    · have h4 := cutS n x i { sp with index := j, size := szL [x] } (by simp [szL]) h1 ha
      rw [edL_same n l _ (by omega)]
      have := h4.ctx (A := []) (B := ktL l) (pa := []) (pb := plL l (i + x.nuS) sp (j + 1)) (q := n - i) rfl (by rw [lx, kx]) (by simp)
      simpa using this
    · rw [edS_same n x i (by omega), hk]
      have h4 := cutL n l (i + x.nuS) sp (j + 1) (by omega) (by omega)
      have ll : (plL l (i + x.nuS) sp (j + 1)).length = nuL l := (plL_kt l _ _ _).2
      have kl : (ktL l).length = nuL l := by rw [← (plL_kt l 0 sp 0).1, List.length_map, (plL_kt l 0 sp 0).2]
      have := h4.ctx (A := x.ktS) (B := []) (pa := x.plS i { sp with index := j, size := szL [x] }) (pb := []) (q := n - i) (by rw [lx, kx]) (by rw [ll, kl]) (by rw [kx]; omega)
      simpa using this
theorem cutE' (n : Nat) : ∀ (l : List Nd) (i : Nat) (sp : Spt), i ≤ n → n < i + nuE l → CutAt (ktE l) (plE l i sp) (n - i) (ktE (edE (cutE n) l i))
  | [], i, sp, h1, h2 => by rw [nuE] at h2; omega
  | x :: l, i, sp, h1, h2 => by
    rw [nuE] at h2
    rw [edE, ktE, ktE, plE]
    try dsimp only
    have lx : (x.plX i sp).length = x.nuX := (plX_kt x _ _).2
    have kx : x.ktX.length = x.nuX := by rw [← (plX_kt x 0 sp).1, List.length_map, (plX_kt x 0 sp).2]
    rw [lx]
    by_cases ha : n < i + x.nuX
    · have h4 := cutX n x i sp h1 ha
      rw [edE_same n l _ (by omega)]
      have := h4.ctx (A := []) (B := ktE l) (pa := []) (pb := plE l (i + x.nuX) sp) (q := n - i) rfl (by rw [lx, kx]) (by simp)
      simpa using this
    · rw [edX_same n x i (by omega)]
      have h4 := cutE' n l (i + x.nuX) sp (by omega) (by omega)
      have ll : (plE l (i + x.nuX) sp).length = nuE l := (plE_kt l _ _).2
      have kl : (ktE l).length = nuE l := by rw [← (plE_kt l 0 sp).1, List.length_map, (plE_kt l 0 sp).2]
      have := h4.ctx (A := x.ktX) (B := []) (pa := x.plX i sp) (pb := []) (q := n - i) (by rw [lx, kx]) (by rw [ll, kl]) (by rw [kx]; omega)
      simpa using this
end
mutual
theorem plS_ok : ∀ (x : Nd) (i : Nat) (sp : Spt) (f : Bool) (p : Plc), p ∈ x.plS i sp → kindB false x.kind = true → x.okB f = true → kindB false p.1.kind = true ∧ ∃ g, p.1.okB g = true
  | .mk k t m s p b e, i, sp, f, q, hq, hk, hx => by
    rw [Nd.plS] at hq
    simp only [List.mem_cons, List.mem_append] at hq
    have hx2 := hx
    rw [Nd.okB] at hx2
    cases hr : ruleOf k with
    | none => rw [hr] at hx2; cases hx2
    | some r =>
      rw [hr] at hx2
      simp only [Bool.and_eq_true] at hx2
      obtain ⟨_, h1, h2, h3⟩ := hx2
      rcases hq with rfl | (hq | hq) | hq
      · exact ⟨hk, f, hx⟩
      · exact plE_ok s _ _ f q hq h1
      · exact plL_ok b _ _ _ _ q hq h2
      · exact plL_ok e _ _ _ f q hq h3
theorem plX_ok : ∀ (x : Nd) (i : Nat) (sp : Spt) (f : Bool) (p : Plc), p ∈ x.plX i sp → x.okB f = true → kindB false p.1.kind = true ∧ ∃ g, p.1.okB g = true
  | .mk k t m s p b e, i, sp, f, q, hq, hx => by
    rw [Nd.plX] at hq
    simp only [List.mem_append] at hq
    rw [Nd.okB] at hx
    cases hr : ruleOf k with
    | none => rw [hr] at hx; cases hx
    | some r =>
      rw [hr] at hx
      simp only [Bool.and_eq_true] at hx
      obtain ⟨_, h1, h2, h3⟩ := hx
      rcases hq with hq | hq
      · exact plE_ok s _ _ f q hq h1
      · split at hq
        · exact plL_ok b _ _ _ _ q hq h2
        · cases hq
theorem plL_ok : ∀ (l : List Nd) (i : Nat) (sp : Spt) (j : Nat) (f : Bool) (p : Plc), p ∈ plL l i sp j → lsB false f l = true → kindB false p.1.kind = true ∧ ∃ g, p.1.okB g = true
  | [], _, _, _, _, q, hq, _ => by rw [plL] at hq; cases hq
  | x :: l, i, sp, j, f, q, hq, hl => by
    rw [plL] at hq
    simp only [List.mem_append] at hq
    rw [lsB] at hl
    simp only [Bool.and_eq_true] at hl
    rcases hq with hq | hq
    · exact plS_ok x _ _ f q hq hl.1.1 hl.1.2
    · exact plL_ok l _ _ _ f q hq hl.2
theorem plE_ok : ∀ (l : List Nd) (i : Nat) (sp : Spt) (f : Bool) (p : Plc), p ∈ plE l i sp → lsB true f l = true → kindB false p.1.kind = true ∧ ∃ g, p.1.okB g = true
  | [], _, _, _, q, hq, _ => by rw [plE] at hq; cases hq
  | x :: l, i, sp, f, q, hq, hl => by
    rw [plE] at hq
    simp only [List.mem_append] at hq
    rw [lsB] at hl
    simp only [Bool.and_eq_true] at hl
    rcases hq with hq | hq
    · exact plX_ok x _ _ f q hq hl.1.2
    · exact plE_ok l _ _ f q hq hl.2
end
theorem plF_ok : ∀ (fs : List Fu) (i j : Nat) (p : Plc), p ∈ plF i j fs → (∀ f ∈ fs, lsB false false f.body = true) → kindB false p.1.kind = true ∧ ∃ g, p.1.okB g = true
  | [], _, _, q, hq, _ => by rw [plF] at hq; cases hq
  | f :: fs, i, j, q, hq, hl => by
    rw [plF] at hq
    simp only [List.mem_append] at hq
    rcases hq with hq | hq
    · exact plL_ok f.body _ _ _ false q hq (hl f (by simp))
    · exact plF_ok fs _ _ q hq fun g hg => hl g (List.mem_cons_of_mem _ hg)
theorem place_ok {fs : List Fu} (h : shapeP fs = 0) {p : Plc} (hp : p ∈ placesP fs) : kindB false p.1.kind = true ∧ ∃ g, p.1.okB g = true :=
 plF_ok fs 0 0 p hp fun f hf => by
  have := (shape_iff.1 h).2.2.2 f hf
  unfold fuB at this
  simp only [Bool.and_eq_true] at this
  exact this.2
theorem edF_same (n : Nat) : ∀ (fs : List Fu) (i : Nat), ¬ (i ≤ n ∧ n < i + nuF fs) → edF (cutE n) fs i = fs
  | [], i, _ => by rw [edF]
  | f :: fs, i, h => by
    have h2 : nuF (f :: fs) = nuL f.body + nuF fs := by simp [nuF]
    rw [h2] at h
    rw [edF]
    by_cases hb : i ≤ n ∧ n < i + nuL f.body
    · omega
    · rw [edL_same n f.body i hb]
      by_cases hc : i + nuL f.body ≤ n ∧ n < i + nuL f.body + nuF fs
      · omega
      · rw [edF_same n fs _ hc]
theorem cutF (n : Nat) : ∀ (fs : List Fu) (i j : Nat), i ≤ n → n < i + nuF fs → CutAt (ktF fs) (plF i j fs) (n - i) (ktF (edF (cutE n) fs i))
  | [], i, j, h1, h2 => by simp [nuF] at h2; omega
  | f :: fs, i, j, h1, h2 => by
    have e2 : nuF (f :: fs) = nuL f.body + nuF fs := by simp [nuF]
    have e1 : ∀ (g : Fu) gs, ktF (g :: gs) = ktL g.body ++ ktF gs := fun g gs => by simp [ktF]
    rw [e2] at h2
    rw [edF, e1, e1, plF]
    try dsimp only
    have lb : (plL f.body i { func := j, fn := false, parent := -1, part := 0, index := 0, size := 0 } 0).length = nuL f.body := (plL_kt f.body _ _ _).2
    have kb : (ktL f.body).length = nuL f.body := by rw [← (plL_kt f.body i { func := j, fn := false, parent := -1, part := 0, index := 0, size := 0 } 0).1, List.length_map, lb]
    rw [lb]
    by_cases ha : n < i + nuL f.body
    · have h4 := cutL n f.body i { func := j, fn := false, parent := -1, part := 0, index := 0, size := 0 } 0 h1 ha
      rw [edF_same n fs _ (by omega)]
      have := h4.ctx (A := []) (B := ktF fs) (pa := []) (pb := plF (i + nuL f.body) (j + 1) fs) (q := n - i) rfl (by rw [lb, kb]) (by simp)
      simpa using this
    · rw [edL_same n f.body i (by omega)]
      have h4 := cutF n fs (i + nuL f.body) (j + 1) (by omega) (by omega)
      have lf : (plF (i + nuL f.body) (j + 1) fs).length = nuF fs := (plF_kt fs _ _).2
      have kf : (ktF fs).length = nuF fs := by rw [← (plF_kt fs 0 0).1, List.length_map, (plF_kt fs 0 0).2]
      have := h4.ctx (A := ktL f.body) (B := []) (pa := plL f.body i { func := j, fn := false, parent := -1, part := 0, index := 0, size := 0 } 0) (pb := []) (q := n - i) (by rw [lb, kb]) (by rw [lf, kf]) (by rw [kb]; omega)
      simpa using this
theorem cut_law {fs : List Fu} {n : Int} {p : Plc} (hs : shapeP fs = 0) (hp : findP fs n = some p) :
  shapeP (edF (repE n []) fs 0) = 0 ∧ 1 ≤ p.2.size ∧ (placesP (edF (repE n []) fs 0)).length + p.2.size = (placesP fs).length ∧
  ∀ i, i < (placesP (edF (repE n []) fs 0)).length → ∃ a b, (placesP (edF (repE n []) fs 0))[i]? = some a ∧ (placesP fs)[if n ≤ (i : Int) then i + p.2.size else i]? = some b ∧ a.1.kind = b.1.kind ∧ a.1.text = b.1.text := by
 have hs2 : shapeP (edF (repE n []) fs 0) = 0 := shape_ed (fun i y f hk hy => by
   unfold repE
   split
   ·rfl
   ·rw [lsB, lsB, hk, hy]; rfl) (fun i y => by
   unfold repE
   split
   ·exact Nat.zero_le _
   ·rw [depL, depL]; omega) (fun i y => by have := repE_cnt n [] i y; rw [cntL] at this; exact this) hs 0
 obtain ⟨h0, hpl⟩ := findP_mem hp
 have hn : n = (n.toNat : Int) := by omega
 have hlen : (placesP fs).length = nuF fs := (plF_kt fs 0 0).2
 have hlt : n.toNat < nuF fs := by rw [← hlen]; exact (List.getElem?_eq_some_iff.1 hpl).1
 have hcut := cutF n.toNat fs 0 0 (Nat.zero_le _) (by omega)
 obtain ⟨P, Q, R, p', hK, hK', h1, h2, h3, h4⟩ := hcut
 rw [Nat.sub_zero] at h1 h2
 have hpp : p' = p := by
  have : (placesP fs)[n.toNat]? = some p' := h2
  rw [hpl] at this
  injection this with this
  exact this.symm
 subst hpp
 have hed : edF (cutE n.toNat) fs 0 = edF (repE n []) fs 0 := by unfold cutE; rw [← hn]
 rw [hed] at hK'
 obtain ⟨hk, g, hg⟩ := place_ok hs (List.mem_of_getElem? hpl)
 have hsz := (sz_nu p'.1 g hg).1 hk
 have h5 : 1 ≤ p'.1.nuS := by rw [Nd.nuS_eq]; omega
 have hmf : (placesP fs).map ktP = P ++ (Q ++ R) := by unfold placesP; rw [(plF_kt fs 0 0).1]; exact hK
 have hmq : (placesP (edF (repE n []) fs 0)).map ktP = P ++ R := by unfold placesP; rw [(plF_kt _ 0 0).1]; exact hK'
 have lf := congrArg List.length hmf
 have lq := congrArg List.length hmq
 simp only [List.length_map, List.length_append] at lf lq
 refine ⟨hs2, by rw [h4, hsz]; exact h5, by rw [h4, hsz]; omega, fun i hi => ?_⟩
 have hi2 : (if n ≤ (i : Int) then i + p'.2.size else i) < (placesP fs).length := by split <;> omega
 refine ⟨_, _, List.getElem?_eq_getElem hi, List.getElem?_eq_getElem hi2, ?_⟩
 have ea : ((placesP (edF (repE n []) fs 0)).map ktP)[i]? = some (ktP ((placesP (edF (repE n []) fs 0))[i])) := by rw [List.getElem?_map, List.getElem?_eq_getElem hi]; rfl
 have eb : ((placesP fs).map ktP)[if n ≤ (i : Int) then i + p'.2.size else i]? = some (ktP ((placesP fs)[if n ≤ (i : Int) then i + p'.2.size else i])) := by rw [List.getElem?_map, List.getElem?_eq_getElem hi2]; rfl
 have hee : (P ++ R)[i]? = (P ++ (Q ++ R))[if n ≤ (i : Int) then i + p'.2.size else i]? := by
  by_cases hc : n ≤ (i : Int)
  ·rw [if_pos hc, List.getElem?_append_right (by omega), List.getElem?_append_right (by omega), List.getElem?_append_right (by omega)]
   congr 1
   omega
  ·rw [if_neg hc, List.getElem?_append_left (by omega), List.getElem?_append_left (by omega)]
 rw [hmq] at ea
 rw [hmf, ← hee, ea] at eb
 injection eb with eb
 have e1 := congrArg (fun z : Kt => z.1) eb
 have e2 := congrArg (fun z : Kt => z.2.1) eb
 exact ⟨e1, e2⟩
end

end Go.Proofs.YtchldahkcpbgcaaGreatDoor
