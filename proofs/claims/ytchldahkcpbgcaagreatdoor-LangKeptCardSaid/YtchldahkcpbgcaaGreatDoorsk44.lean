/- Texts of this seat, one behind the other: AdG, At, RplC. -/
import Derived.Test.YtchldahkcpbgcaaGreatDoorsk30
import Derived.Test.YtchldahkcpbgcaaGreatDoorsk43
namespace Go.Proofs.YtchldahkcpbgcaaGreatDoor
set_option linter.unusedVariables false

/- The addresses of a program's statements are those of its nodes. -/
section
open Go.RowKit
set_option linter.unusedSimpArgs false
def NdG (S : Nat → Prop) (w : World) (a : Addr) (x : Nd) : Prop := ∃ b o h m, a = ⟨b, o, none⟩ ∧ NdAt w b o x h ∧ NdH S m w h x ∧ ¬ S b
def NdGs (S : Nat → Prop) (w : World) (qs : List Addr) (ps : List Plc) : Prop := qs.length = ps.length ∧ ∀ (q : Nat) (a : Addr) (p : Plc), qs[q]? = some a → ps[q]? = some p → NdG S w a p.1
section
variable {S : Nat → Prop} {w v : World}
theorem NdGs.nil : NdGs S w [] [] := ⟨rfl, fun q a p h => by simp at h⟩
theorem NdGs.app {a1 a2 : List Addr} {p1 p2 : List Plc} (h1 : NdGs S w a1 p1) (h2 : NdGs S w a2 p2) : NdGs S w (a1 ++ a2) (p1 ++ p2) := by
 refine ⟨by rw [List.length_append, List.length_append, h1.1, h2.1], fun q a p ha hp => ?_⟩
 rcases Nat.lt_or_ge q a1.length with hq | hq
 ·rw [List.getElem?_append_left hq] at ha
  rw [List.getElem?_append_left (by rw [← h1.1]; exact hq)] at hp
  exact h1.2 q a p ha hp
 ·rw [List.getElem?_append_right hq] at ha
  rw [List.getElem?_append_right (by rw [← h1.1]; exact hq), ← h1.1] at hp
  exact h2.2 _ a p ha hp
theorem NdGs.cons {a : Addr} {qs : List Addr} {p : Plc} {ps : List Plc} (h : NdG S w a p.1) (h1 : NdGs S w qs ps) : NdGs S w (a :: qs) (p :: ps) := by
  refine ⟨by rw [List.length_cons, List.length_cons, h1.1], fun q b r ha hp => ?_⟩
  cases q with
  | zero =>
    simp at ha hp
    subst ha hp
    exact h
  | succ q => exact h1.2 q b r (by simpa using ha) (by simpa using hp)
theorem LN.g {n c : Nat} {A : Option Addr} {l : List Nd} (h : LN S n w A c l) : ∀ k x, l[k]? = some x → NdG S w (ndA A k) x := by
  intro k x hk
  cases n with
  | zero => exact absurd h id
  | succ n =>
    obtain ⟨b, off, y, hd, rfl, hy, h1, h2, h3⟩ := h.at_ (k := k) (List.getElem?_eq_some_iff.1 hk).1
    have := hy.out.symm.trans hk
    injection this with this
    subst this
    exact ⟨b, _, hd, n, ndA_at k, h1, h2, h3⟩
mutual
theorem adS_g (hf : Fr [] w v) : ∀ (x : Nd) (a : Addr) (at0 : Nat) (sp : Spt), NdG S w a x → NdGs S w (x.adS v a) (x.plS at0 sp)
  | .mk k t m s p b e, a, at0, sp, hx => by
    obtain ⟨bb, o, h, m', rfl, h1, h2, h3⟩ := id hx
    rw [Nd.adS, Nd.plS, slA_at (hf.cell h1.c3 (by simp)), slA_at (hf.cell h1.c5 (by simp)), slA_at (hf.cell h1.c6 (by simp))]
    refine NdGs.cons hx ((NdGs.app (adE_g hf s _ 0 _ _ ?_) (adL_g hf b _ 0 _ _ _ ?_)).app (adL_g hf e _ 0 _ _ _ ?_))
    · intro k x hk; rw [Nat.zero_add]; exact h2.subs.g k x hk
    · intro k x hk; rw [Nat.zero_add]; exact h2.body.g k x hk
    · intro k x hk; rw [Nat.zero_add]; exact h2.els.g k x hk
theorem adX_g (hf : Fr [] w v) : ∀ (x : Nd) (a : Addr) (at0 : Nat) (sp : Spt), NdG S w a x → NdGs S w (x.adX v a) (x.plX at0 sp)
  | .mk k t m s p b e, a, at0, sp, hx => by
    obtain ⟨bb, o, h, m', rfl, h1, h2, h3⟩ := id hx
    rw [Nd.adX, Nd.plX, slA_at (hf.cell h1.c3 (by simp)), slA_at (hf.cell h1.c5 (by simp))]
    refine NdGs.app (adE_g hf s _ 0 _ _ ?_) ?_
    · intro k x hk; rw [Nat.zero_add]; exact h2.subs.g k x hk
    · split
      · refine adL_g hf b _ 0 _ _ _ ?_
        intro k x hk; rw [Nat.zero_add]; exact h2.body.g k x hk
      · exact NdGs.nil
theorem adL_g (hf : Fr [] w v) : ∀ (l : List Nd) (A : Option Addr) (i at0 : Nat) (sp : Spt) (j : Nat), (∀ k x, l[k]? = some x → NdG S w (ndA A (i + k)) x) → NdGs S w (adL l v A i) (plL l at0 sp j)
  | [], _, _, _, _, _, _ => by rw [adL, plL]; exact NdGs.nil
  | x :: l, A, i, at0, sp, j, hl => by
    rw [adL, plL]
    refine NdGs.app (adS_g hf x _ _ _ (by simpa using hl 0 x rfl)) (adL_g hf l A (i + 1) _ _ _ fun k y hk => ?_)
    have := hl (k + 1) y (by simpa using hk)
    rw [show i + (k + 1) = i + 1 + k by omega] at this
    exact this
theorem adE_g (hf : Fr [] w v) : ∀ (l : List Nd) (A : Option Addr) (i at0 : Nat) (sp : Spt), (∀ k x, l[k]? = some x → NdG S w (ndA A (i + k)) x) → NdGs S w (adE l v A i) (plE l at0 sp)
  | [], _, _, _, _, _ => by rw [adE, plE]; exact NdGs.nil
  | x :: l, A, i, at0, sp, hl => by
    rw [adE, plE]
    refine NdGs.app (adX_g hf x _ _ _ (by simpa using hl 0 x rfl)) (adE_g hf l A (i + 1) _ _ fun k y hk => ?_)
    have := hl (k + 1) y (by simpa using hk)
    rw [show i + (k + 1) = i + 1 + k by omega] at this
    exact this
end
theorem adF_g (hf : Fr [] w v) {n b off : Nat} : ∀ (fs : List Fu) (i at0 j : Nat), (∀ k f, fs[k]? = some f → ∃ Ab cb, w.cell? ⟨b, off + (i + k) * 3 + 2, none⟩ = some (.slice Ab f.body.length cb) ∧ LN S n w Ab cb f.body) → NdGs S w (adF v (some ⟨b, off, none⟩) i fs) (plF at0 j fs)
  | [], _, _, _, _ => by rw [adF, plF]; exact NdGs.nil
  | f :: fs, i, at0, j, hl => by
    rw [adF, plF]
    obtain ⟨Ab, cb, h1, h2⟩ := hl 0 f rfl
    have hs : slA v (fuA (some ⟨b, off, none⟩) i) 2 = Ab := by
      show slA v ⟨b, off + i * 3, none⟩ 2 = Ab
      exact slA_at (by simpa using hf.cell h1 (by simp))
    rw [hs]
    refine NdGs.app (adL_g hf f.body Ab 0 _ _ _ fun k x hk => by rw [Nat.zero_add]; exact h2.g k x hk) (adF_g hf (n := n) fs (i + 1) _ _ fun k g hk => ?_)
    have := hl (k + 1) g (by simpa using hk)
    rw [show i + (k + 1) = i + 1 + k by omega] at this
    exact this
theorem RF.g (hf : Fr [] w v) {n c : Nat} {A : Option Addr} {fs : List Fu} (h : RF S n w A c fs) : NdGs S w (adF v A 0 fs) (placesP fs) := by
 rcases Nat.eq_zero_or_pos fs.length with h0 | h0
 ·obtain rfl := List.eq_nil_of_length_eq_zero h0
  unfold placesP
  rw [adF, plF]
  exact NdGs.nil
 ·obtain ⟨b, off, rfl, _, hx⟩ := h.at0 h0
  unfold placesP
  refine adF_g hf (n := n) fs 0 0 0 fun k f hk => ?_
  obtain ⟨Ap, cp, Ab, cb, h1, h2, h3, h4, h5⟩ := hx k f hk
  exact ⟨Ab, cb, by rw [Nat.zero_add]; exact h3, h5⟩
end
end

/- At: the statement with a number, in new memory. -/
section
open Go.RowKit
set_option linter.unusedSimpArgs false
def RetAt (w : World) (fs : List Fu) (n : Int) (en : Ending) (w' : World) : Prop :=
 Fr [] w w' ∧ (if shapeP fs ≠ 0 then en = .returned (.tuple #[.agg zeroN, .int .i64 (shapeP fs)]) else
  match findP fs n with
  | some p => ∃ h m, en = .returned (.tuple #[.agg (ndCells p.1 h), .int .i64 0]) ∧ NdH (Bel w) m w' h p.1
  | none => en = .returned (.tuple #[.agg zeroN, .int .i64 7]))
theorem RetAt.bad {w w' : World} {fs : List Fu} {n : Int} {en : Ending} (hf : Fr [] w w') (h : shapeP fs ≠ 0) (he : en = .returned (.tuple #[.agg zeroN, .int .i64 (shapeP fs)])) : RetAt w fs n en w' := ⟨hf, by rw [if_pos h]; exact he⟩
theorem RetAt.none_ {w w' : World} {fs : List Fu} {n : Int} {en : Ending} (hf : Fr [] w w') (h : shapeP fs = 0) (h1 : findP fs n = none) (he : en = .returned (.tuple #[.agg zeroN, .int .i64 7])) : RetAt w fs n en w' := ⟨hf, by rw [if_neg (by simp [h]), h1]; exact he⟩
theorem RetAt.some_ {w w' : World} {fs : List Fu} {n : Int} {en : Ending} {p : Plc} {h : HdN} {m : Nat} (hf : Fr [] w w') (h0 : shapeP fs = 0) (h1 : findP fs n = some p) (he : en = .returned (.tuple #[.agg (ndCells p.1 h), .int .i64 0])) (hn : NdH (Bel w) m w' h p.1) : RetAt w fs n en w' := ⟨hf, by rw [if_neg (by simp [h0]), h1]; exact ⟨h, m, he, hn⟩⟩
theorem findP_mem {fs : List Fu} {n : Int} {p : Plc} (h : findP fs n = some p) : 0 ≤ n ∧ (placesP fs)[n.toNat]? = some p := by
 unfold findP at h
 split at h
 ·exact ⟨by assumption, h⟩
 ·cases h
mutual
theorem plS_mem : ∀ (x : Nd) (i : Nat) (sp : Spt) (p : Plc), p ∈ x.plS i sp → x.pp → p.1.pp ∧ p.1.cnt ≤ x.cnt
  | .mk k t m s p b e, i, sp, q, hq, hx => by
    rw [Nd.plS] at hq
    simp only [List.mem_cons, List.mem_append] at hq
    have hx2 := hx
    rw [Nd.pp] at hx2
    rw [Nd.cnt]
    rcases hq with rfl | (hq | hq) | hq
    · exact ⟨hx, by rw [Nd.cnt]; exact Nat.le_refl _⟩
    · have := plE_mem s _ _ q hq hx2.2.1; exact ⟨this.1, by omega⟩
    · have := plL_mem b _ _ _ q hq hx2.2.2.1; exact ⟨this.1, by omega⟩
    · have := plL_mem e _ _ _ q hq hx2.2.2.2; exact ⟨this.1, by omega⟩
theorem plX_mem : ∀ (x : Nd) (i : Nat) (sp : Spt) (p : Plc), p ∈ x.plX i sp → x.pp → p.1.pp ∧ p.1.cnt ≤ x.cnt
  | .mk k t m s p b e, i, sp, q, hq, hx => by
    rw [Nd.plX] at hq
    simp only [List.mem_append] at hq
    rw [Nd.pp] at hx
    rw [Nd.cnt]
    rcases hq with hq | hq
    · have := plE_mem s _ _ q hq hx.2.1; exact ⟨this.1, by omega⟩
    · split at hq
      · have := plL_mem b _ _ _ q hq hx.2.2.1; exact ⟨this.1, by omega⟩
      · cases hq
theorem plL_mem : ∀ (l : List Nd) (i : Nat) (sp : Spt) (j : Nat) (p : Plc), p ∈ plL l i sp j → ppL l → p.1.pp ∧ p.1.cnt ≤ cntL l
  | [], _, _, _, q, hq, _ => by rw [plL] at hq; cases hq
  | x :: l, i, sp, j, q, hq, hl => by
    rw [plL] at hq
    simp only [List.mem_append] at hq
    rw [ppL] at hl
    rw [cntL]
    rcases hq with hq | hq
    · have := plS_mem x _ _ q hq hl.1; exact ⟨this.1, by omega⟩
    · have := plL_mem l _ _ _ q hq hl.2; exact ⟨this.1, by omega⟩
theorem plE_mem : ∀ (l : List Nd) (i : Nat) (sp : Spt) (p : Plc), p ∈ plE l i sp → ppL l → p.1.pp ∧ p.1.cnt ≤ cntL l
  | [], _, _, q, hq, _ => by rw [plE] at hq; cases hq
  | x :: l, i, sp, q, hq, hl => by
    rw [plE] at hq
    simp only [List.mem_append] at hq
    rw [ppL] at hl
    rw [cntL]
    rcases hq with hq | hq
    · have := plX_mem x _ _ q hq hl.1; exact ⟨this.1, by omega⟩
    · have := plE_mem l _ _ q hq hl.2; exact ⟨this.1, by omega⟩
end
theorem plF_mem : ∀ (fs : List Fu) (i j : Nat) (p : Plc), p ∈ plF i j fs → (∀ f ∈ fs, ppL f.body) → p.1.pp ∧ p.1.cnt ≤ cntF fs
  | [], _, _, q, hq, _ => by rw [plF] at hq; cases hq
  | f :: fs, i, j, q, hq, hl => by
    rw [plF] at hq
    simp only [List.mem_append] at hq
    have hc : cntF (f :: fs) = cntL f.body + cntF fs := by simp [cntF]
    rw [hc]
    rcases hq with hq | hq
    · have := plL_mem f.body _ _ _ q hq (hl f (by simp)); exact ⟨this.1, by omega⟩
    · have := plF_mem fs _ _ q hq (fun g hg => hl g (List.mem_cons_of_mem _ hg)); exact ⟨this.1, by omega⟩
theorem shape_pp {fs : List Fu} (h : shapeP fs = 0) : ∀ f ∈ fs, ppL f.body ∧ f.params.length ≤ 8 := by
 intro f hf
 have h1 : ∀ f ∈ fs, fuB f = true := by
  unfold shapeP at h
  split at h
  ·exact absurd h (by decide)
  ·split at h
   ·exact absurd h (by decide)
   ·split at h
    ·rename_i h1
     exact fun f hf => List.all_eq_true.1 h1 f hf
    ·exact absurd h (by decide)
 have h2 := h1 f hf
 unfold fuB paramsB at h2
 simp only [Bool.and_eq_true, decide_eq_true_eq] at h2
 exact ⟨lsB_pp h2.2, h2.1.2.1⟩
theorem found_small {fs : List Fu} {n : Int} {p : Plc} (h : shapeP fs = 0) (hp : findP fs n = some p) (hb : cntF fs ≤ 1000000000) : p.1.pp ∧ p.1.cnt ≤ 1000000000 := by
 have h1 := plF_mem fs 0 0 p (List.mem_of_getElem? (findP_mem hp).2) (fun f hf => (shape_pp h f hf).1)
 exact ⟨h1.1, by omega⟩
theorem find_open {w w' : World} {S : Nat → Prop} {k : Nat} {A : Option Addr} {c : Nat} {fs : List Fu} {n : Int} {en : Ending} (hR : RF S k w A c fs) (h : RetFind w A fs n en w') : Fr [] w w' ∧ ((shapeP fs ≠ 0 ∧ en = .returned (.tuple #[.agg zeroPl, .int .i64 (shapeP fs)])) ∨
    (shapeP fs = 0 ∧ findP fs n = none ∧ en = .returned (.tuple #[.agg zeroPl, .int .i64 7])) ∨ (shapeP fs = 0 ∧ ∃ p b o hd m, findP fs n = some p ∧ en = .returned (.tuple #[.agg (plC ⟨b, o, none⟩ p.2), .int .i64 0]) ∧ NdAt w' b o p.1 hd ∧ NdH S m w' hd p.1 ∧ b < w.heap.size ∧ ¬ S b)) := by
  obtain ⟨hf, h⟩ := h
  refine ⟨hf, ?_⟩
  by_cases hs : shapeP fs = 0
  · rw [if_neg (by simp [hs])] at h
    cases hp : findP fs n with
    | none =>
      rw [hp] at h
      exact .inr (.inl ⟨hs, rfl, h⟩)
    | some p =>
      rw [hp] at h
      obtain ⟨a, Wb, hfb, ha, he⟩ := h
      obtain ⟨h0, hpl⟩ := findP_mem hp
      obtain ⟨b, o, hd, m, rfl, h1, h2, h3⟩ := (hR.g hfb).2 _ a p ha hpl
      exact .inr (.inr ⟨hs, p, b, o, hd, m, rfl, he, h1.fr0 hf, h2.fr0 hf, h1.lt, h3⟩)
  · rw [if_pos hs] at h
    exact .inl ⟨hs, h⟩
theorem results_nodeE {fn : Func} {p t : Tmp} (h : fn.results = #[.cell p 46, .tmp t]) (tmps : Array Value) (w : World) (g : Nat) {a0 a1 a2 a3 a4 a5 a6 : Value} (hp : tmps.getD p undef = .pointer (some ⟨g, 0, none⟩)) (hb : Blk w g 46 #[a0, a1, a2, a3, a4, a5, a6]) :
  (results fn tmps).run Tryz.prog w = .ok (.tuple #[.agg #[a0, a1, a2, a3, a4, a5, a6], tmps.getD t undef]) w := by
 have c0 := hb.cell 0 rfl
 have c1 := hb.cell 1 rfl
 have c2 := hb.cell 2 rfl
 have c3 := hb.cell 3 rfl
 have c4 := hb.cell 4 rfl
 have c5 := hb.cell 5 rfl
 have c6 := hb.cell 6 rfl
 simp only [Array.getD_eq_getD_getElem?] at hp
 simp [results, h, go_sem, hp, c0, c1, c2, c3, c4, c5, c6]
set_option maxHeartbeats 3200000 in
set_option maxRecDepth 20000 in
theorem At_any {S : Nat → Prop} {k : Nat} {A : Option Addr} {c : Nat} {fs : List Fu} {w : World} (n : Int) (hR : RF S k w A c fs) (hb : cntF fs ≤ 1000000000) (ht : TxF fs) :
  Calls Tryz.prog 30 #[.agg #[.slice A fs.length c], .int .i64 n] w (RetAt w fs n) := by
 obtain ⟨pb, hpb⟩ : ∃ g, g = w.heap.size := ⟨_, rfl⟩
 have HPB := Lib.hid hpb
 clear hpb
 go_enter Tryz.func30, Tryz.ntmps30
 go_upto_region 1 with fail
 have hpb := HPB.out
 rw [← hpb]
 refine wp_hide (fun W hW => ?_)
 have hf0 : Fr [] w W := by rw [hW]; exact frx
 have hP : Blk W pb 25 #[.slice A fs.length c] := by rw [hW]; exact (Blk.new _ _ _ _ hpb).alloc _
 have hZ : Blk W (pb + 1) 46 zeroN := by rw [hW]; exact Blk.new _ _ _ _ (by simp [hpb])
 have hWs : W.heap.size = pb + 2 := by rw [hW, hpb]; simp
 have hpw : w.heap.size ≤ pb := by omega
 clear hW hpb
 have HF := Lib.hid (find_any pb n A c fs S k W hP (hR.fr0 hf0) hb ht)
 have hRW := (hR.sub (S' := upB w.heap.size) (fun q hq h => absurd hq (Nat.not_lt.2 h))).fr0 hf0
 go_wp2_with fail
 refine HF.out.mono ?_
 rintro e w1 hfd
 obtain ⟨hf1, hcase⟩ := find_open hRW hfd
 have hZ1 := hZ.fr hf1 (by simp)
 have hw1 := hf0.trans hf1
 clear hfd HF hP hZ
 rcases hcase with ⟨hs, rfl⟩ | ⟨hs, hfp, rfl⟩ | ⟨hs, p, b, o, hd, m, hfp, rfl, hN, hH, _, hbl⟩
 ·obtain ⟨sh, hsh⟩ : ∃ z, shapeP fs = z := ⟨_, rfl⟩
  rw [hsh] at hs ⊢
  have ez : (sh != 0) = true := by simpa using hs
  have HS := Lib.hid hsh
  have HN := Lib.hid hs
  clear hsh hs
  have hzl := hZ1.lt
  go_upto_region 2 with fail
  refine wp_hide (fun M hM => ?_)
  have hfM : Fr [] w1 M := by rw [hM]; exact frx
  have hZM := hZ1.fr hfM (by simp)
  have hwM := hw1.trans hfM
  clear hM hZ1 hfM
  obtain ⟨e0, e1, e2, e3, e4, e5, e6⟩ := hZM.es
  obtain ⟨z0, z1, z2, z3, z4, z5, z6⟩ := hZM.fz
  go_wp2
  refine bodyPost_ret (results_nodeE rfl _ _ (pb + 1) rfl (hZM.node _ _ _ _ _ _ _)) rfl ?_
  exact RetAt.bad (fr_node hwM (.inr (by omega)) _ _ _ _ _ _ _) (by rw [HS.out]; exact HN.out) (by rw [HS.out]; rfl)
 ·have HS := Lib.hid hs
  have HN := Lib.hid hfp
  clear hs hfp
  have hzl := hZ1.lt
  go_upto_region 2 with fail
  refine wp_hide (fun M hM => ?_)
  have hfM : Fr [] w1 M := by rw [hM]; exact frx
  have hZM := hZ1.fr hfM (by simp)
  have hwM := hw1.trans hfM
  clear hM hZ1 hfM
  obtain ⟨e0, e1, e2, e3, e4, e5, e6⟩ := hZM.es
  obtain ⟨z0, z1, z2, z3, z4, z5, z6⟩ := hZM.fz
  go_wp2
  refine bodyPost_ret (results_nodeE rfl _ _ (pb + 1) rfl (hZM.node _ _ _ _ _ _ _)) rfl ?_
  exact RetAt.none_ (fr_node hwM (.inr (by omega)) _ _ _ _ _ _ _) HS.out HN.out rfl
 ·have HS := Lib.hid hs
  have HN := Lib.hid hfp
  obtain ⟨hpp, hcx⟩ := found_small hs hfp hb
  clear hs hfp
  obtain ⟨x, sp⟩ := p
  dsimp only at hN hH hpp hcx
  have hzl := hZ1.lt
  have hbl2 : b < w.heap.size := Nat.lt_of_not_le hbl
  have hbb : b ≠ pb + 1 := by omega
  go_upto_region 2 with fail
  obtain ⟨gp, hgp⟩ : ∃ g, g = w1.heap.size := ⟨_, rfl⟩
  rw [← hgp]
  refine wp_hide (fun M hM => ?_)
  have hfM : Fr [] w1 M := by rw [hM]; exact frx
  have hPM : Blk M gp 122 (plC ⟨b, o, none⟩ sp) := by rw [hM]; exact Blk.new _ _ _ _ hgp
  have hZM := hZ1.fr hfM (by simp)
  have hwM := hw1.trans hfM
  obtain ⟨c0, c1, c2, c3, c4, c5, c6⟩ := hN.fr0 hfM
  have q0 : M.cell? ⟨gp, 0, none⟩ = some (.pointer (some ⟨b, o, none⟩)) := hPM.cell 0 rfl
  have hA : Hid (∀ V, Fr [] M V → Calls Tryz.prog 97 #[.agg (ndCells x hd)] V (RetNode V m x)) := Lib.hid fun V hV => owd_all m _ hd x V (hH.fr0 (hfM.trans hV)) hcx hpp
  clear hM hfM hgp hPM hN hH
  go_wp2_with fail
  refine (hA.out _ frx).mono ?_
  rintro e w3 ⟨h3, rfl, hx3, hf3⟩
  have hw13 : Fr [] M w3 := Fr.trans frx hf3
  have hZ3 := hZM.fr hw13 (by simp)
  obtain ⟨e0, e1, e2, e3, e4, e5, e6⟩ := hZ3.es
  obtain ⟨z0, z1, z2, z3, z4, z5, z6⟩ := hZ3.fz
  have hzl3 := hZ3.lt
  have hzM := hZM.lt
  clear c0 c1 c2 c3 c4 c5 c6
  go_wp2
  refine bodyPost_ret (results_nodeE rfl _ _ (pb + 1) rfl (hZ3.node _ _ _ _ _ _ _)) rfl ?_
  have s1 := hw13.size
  have s0 := hw1.size
  refine RetAt.some_ (fr_node (hwM.trans hw13) (.inr (by omega)) _ _ _ _ _ _ _) HS.out HN.out rfl ((hx3.sub (S' := fun q => q < w.heap.size ∨ q = pb + 1) ?_).fr (fr_node (S := [pb + 1]) (g := pb + 1) (Fr.refl _ _) (.inl (by simp)) _ _ _ _ _ _ _) (fun q hq => .inr (by simpa using hq)) |>.sub (fun q _ hq => .inl hq))
  intro q _ hq
  show q < _
  rcases hq with h | h <;> omega
end

/- The closures of Replace and Keep. -/
section
open Go.RowKit
set_option linter.unusedSimpArgs false
theorem repl1_any {base t m i nb wb : Nat} {n : Int} {x : Nd} {h : HdN} {Aw : Option Addr} {cw : Nat} {wt : List Nd} {V : World} (hn : V.cell? ⟨nb, 0, none⟩ = some (.int .i64 n)) (hw : V.cell? ⟨wb, 0, none⟩ = some (.slice Aw wt.length cw)) (hW : LN (Bt base t) (m + 1) V Aw cw wt) (ht : t ≤ V.heap.size) (hN : NdH (Bt base t) m V h x) :
  Calls Tryz.prog 95 #[.int .i64 i, .agg (ndCells x h), .pointer (some ⟨nb, 0, none⟩), .pointer (some ⟨wb, 0, none⟩)] V (fun en w' => ∃ B d, en = .returned (.slice B (repE n wt i x).length d) ∧ LN (Bt base t) (m + 1) w' B d (repE n wt i x) ∧ Fr [] V w') := by
 have hnl := Lib.lt_of_cell hn
 have hwl := Lib.lt_of_cell hw
 dsimp only at hnl hwl
 obtain ⟨bx, hbx⟩ : ∃ g, g = V.heap.size := ⟨_, rfl⟩
 have HBX := Lib.hid hbx
 clear hbx
 go_enter Tryz.func95, Tryz.ntmps95
 go_upto_region 1 with fail
 have hbx := HBX.out
 rw [← hbx]
 refine wp_hide (fun M hM => ?_)
 have hf : Fr [] V M := by rw [hM]; exact frx
 have hB : Blk M bx 46 (ndCells x h) := by rw [hM]; exact Blk.new _ _ _ _ hbx
 have q0 := hf.cell hn (by simp)
 have q1 := hf.cell hw (by simp)
 clear hM hbx
 by_cases hi : (i : Int) = n
 ·have HR : Hid (repE n wt i x = wt) := Lib.hid (by unfold repE; rw [if_pos hi])
  have ei : ((i : Int) == n) = true := by simpa using hi
  clear hi
  go_wp2
  go_ret
  rw [HR.out]
  exact ⟨Aw, cw, rfl, hW.fr0 hf, hf⟩
 ·have HR : Hid (repE n wt i x = [x]) := Lib.hid (by unfold repE; rw [if_neg hi])
  have ei : ((i : Int) == n) = false := by simpa using hi
  clear hi
  obtain ⟨c0, c1, c2, c3, c4, c5, c6⟩ := hB.cs
  have hs := hf.size
  go_wp2
  go_ret
  have hf2 : Fr [] V (M.alloc (.cells (ndCells x h) 46)) := hf.alloc _
  rw [HR.out]
  exact ⟨some ⟨M.heap.size, 0, none⟩, 1, rfl, LN.one (Blk.new M _ _ _ rfl) (fun hb => by have := hb.2; omega) (hN.fr0 hf2), hf2⟩
theorem keep1_any {base t m i kb : Nat} {x : Nd} {h : HdN} {Ak : Option Addr} {ck : Nat} {kp : List Bool} {V : World} (hk : V.cell? ⟨kb, 0, none⟩ = some (.slice Ak kp.length ck)) (hK : Rd V .bool Ak ck kp) (hi : i < kp.length) (ht : t ≤ V.heap.size) (hN : NdH (Bt base t) m V h x) (hm : 0 < m) :
    Calls Tryz.prog 100 #[.int .i64 i, .agg (ndCells x h), .pointer (some ⟨kb, 0, none⟩)] V (fun en w' => ∃ B d, en = .returned (.slice B (keepE kp i x).length d) ∧ LN (Bt base t) (m + 1) w' B d (keepE kp i x) ∧ Fr [] V w') := by
  have hkl := Lib.lt_of_cell hk
  have hbd := hK.bound
  dsimp only at hkl
  obtain ⟨b1, o1, z, rfl, hx, hc⟩ := hK.at_ hi
  have hcl := Lib.lt_of_cell hc
  dsimp only at hcl
  obtain ⟨bx, hbx⟩ : ∃ g, g = V.heap.size := ⟨_, rfl⟩
  have HBX := Lib.hid hbx
  clear hbx
  go_enter Tryz.func100, Tryz.ntmps100
  go_upto_region 1 with fail
  have hbx := HBX.out
  rw [← hbx]
  refine wp_hide (fun M hM => ?_)
  have hf : Fr [] V M := by rw [hM]; exact frx
  have hB : Blk M bx 46 (ndCells x h) := by rw [hM]; exact Blk.new _ _ _ _ hbx
  have q0 := hf.cell hk (by simp)
  have q1 := hf.cell hc (by simp)
  clear hM hbx
  have HE : Hid (keepE kp i x = if z then [x] else []) := Lib.hid (by unfold keepE; rw [hx.out]; rfl)
  cases z with
  | false =>
    rw [if_neg (by simp)] at HE
    go_wp2
    go_ret
    rw [HE.out]
    exact ⟨none, 0, rfl, LN.nil0 _ _ _ _, hf⟩
  | true =>
    rw [if_pos rfl] at HE
    obtain ⟨c0, c1, c2, c3, c4, c5, c6⟩ := hB.cs
    have hs := hf.size
    go_wp2
    go_ret
    have hf2 : Fr [] V (M.alloc (.cells (ndCells x h) 46)) := hf.alloc _
    rw [HE.out]
    exact ⟨some ⟨M.heap.size, 0, none⟩, 1, rfl, LN.one (Blk.new M _ _ _ rfl) (fun hb => by have := hb.2; omega) (hN.fr0 hf2), hf2⟩
theorem edC_repl {base nb wb nw KK : Nat} {n : Int} {Aw : Option Addr} {cw : Nat} {wt : List Nd} {w0 : World} (hn : w0.cell? ⟨nb, 0, none⟩ = some (.int .i64 n)) (hw : w0.cell? ⟨wb, 0, none⟩ = some (.slice Aw wt.length cw)) (hW : LN (upB base) nw w0 Aw cw wt) (hnb : nb < base) (hwb : wb < base) (hl : wt.length ≤ 9000) :
  EdC base w0 95 #[.pointer (some ⟨nb, 0, none⟩), .pointer (some ⟨wb, 0, none⟩)] nw KK (wt.length + 1) (repE n wt) where
 call V i m t x h hb ht hi hm hN := by
  have := hW.below hb
  exact repl1_any (by rw [hb.cell hnb]; exact hn) (by rw [hb.cell hwb]; exact hw) ((this.sub (S' := Bt base t) (fun b _ h => h.1)).mono (by omega)) ht hN
 len := repE_len n wt
 enter args w := by simp [go_sem]
 small := by omega
theorem edC_keep {base kb : Nat} {Ak : Option Addr} {ck : Nat} {kp : List Bool} {w0 : World} (hk : w0.cell? ⟨kb, 0, none⟩ = some (.slice Ak kp.length ck)) (hK : RdS (upB base) w0 .bool Ak ck kp) (hkb : kb < base) :
  EdC base w0 100 #[.pointer (some ⟨kb, 0, none⟩)] 1 kp.length 1 (keepE kp) where
 call V i m t x h hb ht hi hm hN := keep1_any (by rw [hb.cell hkb]; exact hk) (hK.below hb).1 hi ht hN (by omega)
 len := keepE_len kp
 enter args w := by simp [go_sem]
 small := by omega
end

end Go.Proofs.YtchldahkcpbgcaaGreatDoor
