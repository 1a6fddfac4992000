/- Texts of this seat, one behind the other: RHois, RPrb, Prn, RPru. -/
import Derived.Test.YtippadnbngcjlaaGreatDoorh136
import Derived.Test.YtippadnbngcjlaaGreatDoorh116
namespace Go.Proofs.YtippadnbngcjlaaGreatDoor
set_option linter.unusedVariables false

/- Hoist of the reference; its Spots is a premise. -/
section
open Go.RowKit
theorem zeroT_n {w w' : World} {g : Nat} {e : Int} (hf : Fr [] w w') (hg : w.heap.size ≤ g) (n : Nat) (hn : 0 < n) : RetTE n w (zeroT, e) (.returned (.tuple #[.agg #[.int .i64 0, .string emptyS, .slice none 0 0], .int .i64 e])) (((w'.setCell ⟨g, 0, none⟩ (.int .i64 0)).setCell ⟨g, 1, none⟩ (.string emptyS)).setCell ⟨g, 2, none⟩ (.slice none 0 0)) := by
 obtain ⟨m, rfl⟩ : ∃ m, n = m + 1 := ⟨n - 1, by omega⟩
 exact zeroT_ret hf hg m
set_option maxRecDepth 20000 in
set_option maxHeartbeats 12800000 in
theorem refHoist_any (A : Option Addr) (c : Nat) (g : List Ru) (L : List Int) (n : Nat) (t : T) (v : Value) (S : Nat → Prop) (at_ from_ : Int) (w : World) (ha : RRu w A c g) (hL : rulesErr g = 0 → LOk g L) (ht : RT S n w v t) (hn : t.nodes ≤ 1024)
  (hSp : ∀ w', Fr [] w w' → Val g t → Calls Tryz.prog 64 #[.agg #[.slice A g.length c], v] w' (RetSpR g t n w')) :
  Calls Tryz.prog 37 #[.agg #[.slice A g.length c], v, .int .i64 at_, .int .i64 from_] w (RetTE (n + n) w (hoistE g L t at_ from_)) := by
 obtain ⟨AT, cT, rfl, hR⟩ := ht
 have hnn : 0 < n + n := by
  rcases n with _ | n
  ·exact absurd hR id
  ·omega
 obtain ⟨W, hW⟩ : ∃ W, W = ((w.alloc (.cells #[.slice A g.length c] 24)).alloc (.cells (tcells t AT cT) 27)).alloc (.cells #[.int .i64 0, .string emptyS, .slice none 0 0] 27) := ⟨_, rfl⟩
 have hF : Fr [] w W := by rw [hW]; exact frx
 have hB1 : Blk W w.heap.size 24 #[.slice A g.length c] := by rw [hW]; exact ((Blk.new w _ _ _ rfl).alloc _).alloc _
 have hB2 : Blk W (w.heap.size + 1) 27 (tcells t AT cT) := by rw [hW]; exact (Blk.new _ _ _ _ (by simp)).alloc _
 have hB3 : Blk W (w.heap.size + 2) 27 #[.int .i64 0, .string emptyS, .slice none 0 0] := by rw [hW]; exact Blk.new _ _ _ _ (by simp)
 have q0 := hB1.cell 0 rfl
 have p0 := hB2.cell 0 rfl
 have p1 := hB2.cell 1 rfl
 have p2 := hB2.cell 2 rfl
 rw [hW] at q0 p0 p1 p2
 have HW := Lib.hid hW.symm
 clear hW
 go_enter Tryz.func37, Tryz.ntmps37
 go_wp2_with fail
 rw [HW.out]
 clear q0 p0 p1 p2
 refine (refCheckTree_any A c g L n t _ S _ (ha.fr0 hF) hL ⟨AT, cT, rfl, hR.fr0 hF⟩ (by omega)).mono ?_
 rintro e w2 ⟨rfl, hf1⟩
 have hF2 := hF.trans hf1
 have hB1 := hB1.fr hf1 (by simp)
 have hB2 := hB2.fr hf1 (by simp)
 have hB3 := hB3.fr hf1 (by simp)
 by_cases hez : chkT g L t = 0
 ·have hOk := hoistE_ok (at_ := at_) (from_ := from_) hez
  have hErr : Hid (hoistOf g t at_ from_ = none → hoistE g L t at_ from_ = (zeroT, 1)) := fun h => by rw [hOk, h]; rfl
  have hYes : Hid (∀ x, hoistOf g t at_ from_ = some x → hoistE g L t at_ from_ = (x, 0)) := fun x h => by rw [hOk, h]; rfl
  obtain ⟨_, _, _, hv, hro⟩ := chkT_zero hez
  rw [hez]
  clear hez hOk
  have hval := Lib.hid hv
  have q0 := hB1.cell 0 rfl
  have p0 := hB2.cell 0 rfl
  have p1 := hB2.cell 1 rfl
  have p2 := hB2.cell 2 rfl
  go_wp2_with fail
  refine (hSp _ hF2 hval.out).mono ?_
  rintro e w3 ⟨A6, c6, G, rfl, hf3, hGm, hG, hGo⟩
  clear q0 p0 p1 p2 hSp
  have hF3 := hF2.trans hf3
  have hB2 := hB2.fr hf3 (by simp)
  have hB3 := hB3.fr hf3 (by simp)
  have hGl : Hid (G.length = t.nodes) := by show _ = _; rw [← spots_len t hval.out slot0 1, ← hGm, List.length_map]
  obtain ⟨b6, off6, rfl, hcell⟩ := hG (by rw [encR_len, hGl.out]; have := T.nodes_pos t; omega)
  have hsp : Hid (∀ (k : Nat), k < t.nodes → ∃ p : SpR, G[k]? = some p ∧ (spotsT g t slot0 1)[k]? = some p.1.1 ∧ SpOk w2.heap.size n w3 p.1 ∧ (∀ j u, (encR p)[j]? = some u → w3.cell? ⟨b6, off6 + k * 8 + j, none⟩ = some u) ∧ Val g p.1.1.tree ∧ p.1.1.tree.nodes = p.1.1.size ∧ k + p.1.1.size ≤ t.nodes) := fun k hk => by
   obtain ⟨p, h1⟩ : ∃ p, G[k]? = some p := ⟨_, List.getElem?_eq_getElem (by rw [hGl.out]; exact hk)⟩
   have h2 : (spotsT g t slot0 1)[k]? = some p.1.1 := by rw [← hGm, List.getElem?_map, h1]; rfl
   obtain ⟨h3, h4, h5⟩ := spots_in t hval.out slot0 1 k _ h2
   refine ⟨p, h1, h2, hGo _ (List.mem_of_getElem? h1), fun j u hu => ?_, h3, h4, h5⟩
   rw [Nat.add_assoc]
   exact hcell _ _ (encR_at G k _ h1 j u hu)
  have u0 := hB3.cell 0 rfl
  have u1 := hB3.cell 1 rfl
  have u2 := hB3.cell 2 rfl
  have v0 := hB3.frozen 0
  have v1 := hB3.frozen 1
  have v2 := hB3.frozen 2
  have hwl := hB3.lt
  have hpart := Lib.hid (trivial)
  clear hcell hG hGm hGo hpart hv
  by_cases hA0 : at_ < 0
  ·have hE := Lib.hid (hErr.out (hoist_no (.inl hA0)))
   have d1 : decide (at_ < 0) = true := decide_eq_true hA0
   have hA0 := Lib.hid hA0
   go_wp2_with fail
   refine bodyPost_ret (results_tree2 rfl _ _ (w.heap.size + 2) rfl (hB3.three _ _ _)) rfl ?_
   rw [hE.out]
   exact zeroT_n hF3 (by omega) _ hnn
  by_cases hA1 : (t.nodes : Int) ≤ at_
  ·have hE := Lib.hid (hErr.out (hoist_no (.inr hA1)))
   have d1 : decide (at_ < 0) = false := decide_eq_false hA0
   have d2 : decide ((t.nodes : Int) ≤ at_) = true := decide_eq_true hA1
   have hA0 := Lib.hid hA0
   have hA1 := Lib.hid hA1
   go_wp2_with fail
   refine bodyPost_ret (results_tree2 rfl _ _ (w.heap.size + 2) rfl (hB3.three _ _ _)) rfl ?_
   rw [hE.out]
   exact zeroT_n hF3 (by omega) _ hnn
  by_cases hz : at_ = 0
  ·subst hz
   have hal : 0 < t.nodes := T.nodes_pos t
   have hn0 : ¬ t.nodes = 0 := by omega
   have d2 : decide ((t.nodes : Int) ≤ 0) = false := decide_eq_false hA1
   obtain ⟨⟨⟨p, ⟨pC, pc⟩, pD⟩, pab⟩, _, hp2, hpo, hpc, hpv, hpn, hps⟩ := hsp.out 0 hal
   have hpE : Hid (hoistOf g t (0 : Int) from_ = hoistP g t (spotsT g t slot0 1) (0 : Int) from_ p) := hoist_p (a := 0) (from_ := from_) hal hp2
   have z0 := hpc 0 _ rfl
   have z1 := hpc 1 _ rfl
   have z2 := hpc 2 _ rfl
   have z5 := hpc 5 _ rfl
   have hpt := hpo.tree
   have hpk := hpo.kinds
   simp only at z0 z1 z2 z5 hps hpn hpv hpt hpk
   rw [Nat.add_zero] at z0
   have hpb : p.tree.nodes ≤ 1024 := by omega
   simp only [Nat.zero_mul, Nat.add_zero] at z1 z2 z5
   have HP2 := Lib.hid hp2
   have HPO := Lib.hid hpo
   have HA1 := Lib.hid hA1
   have HA0 := Lib.hid hA0
   clear hpc hp2 hpo hA0 hA1
   by_cases hF0 : from_ ≤ (0 : Int)
   ·have hE := hErr.out (hpE.out.trans (hoist_p_no (g := g) (t := t) (p := p) (l := spotsT g t slot0 1) (.inl hF0)))
    have hE := Lib.hid hE
    have d3 : decide (from_ ≤ (0 : Int)) = true := decide_eq_true hF0
    have hF0 := Lib.hid hF0
    go_wp2_with fail
    refine bodyPost_ret (results_tree2 rfl _ _ (w.heap.size + 2) rfl (hB3.three _ _ _)) rfl ?_
    rw [hE.out]
    exact zeroT_n hF3 (by omega) _ hnn
   have d3 : decide (from_ ≤ (0 : Int)) = false := decide_eq_false hF0
   by_cases hF1 : (p.tree.nodes : Int) ≤ from_
   ·have hE := Lib.hid (hErr.out (hpE.out.trans (hoist_p_no (g := g) (t := t) (p := p) (l := spotsT g t slot0 1) (.inr (by omega)))))
    have d4 : decide ((p.tree.nodes : Int) ≤ from_) = true := decide_eq_true hF1
    have hpnn := Lib.hid hpn
    have hF0 := Lib.hid hF0
    have hF1 := Lib.hid hF1
    clear hpn
    go_wp2_with fail
    refine (refNodes_any n p.tree _ (fun j => w2.heap.size ≤ j) _ ⟨pC, pc, rfl, hpt.fr0 (Fr.refl _ _)⟩ (by omega)).mono ?_
    rintro e w4 ⟨rfl, hf4⟩
    clear u0 u1 u2 v0 v1 v2
    have hB3 := hB3.fr hf4 (by simp)
    have u0 := hB3.cell 0 rfl
    have u1 := hB3.cell 1 rfl
    have u2 := hB3.cell 2 rfl
    have v0 := hB3.frozen 0
    have v1 := hB3.frozen 1
    have v2 := hB3.frozen 2
    have hF3 := hF3.trans hf4
    go_wp2_with fail
    refine bodyPost_ret (results_tree2 rfl _ _ (w.heap.size + 2) rfl (hB3.three _ _ _)) rfl ?_
    rw [hE.out]
    exact zeroT_n hF3 (by omega) _ hnn
   have d4 : decide ((p.tree.nodes : Int) ≤ from_) = false := decide_eq_false hF1
   obtain ⟨f, rfl⟩ : ∃ f : Nat, from_ = f := ⟨from_.toNat, by omega⟩
   have hfl : f < t.nodes := by omega
   obtain ⟨⟨⟨q, ⟨qC, qc⟩, qD⟩, qab⟩, _, hq2, hqo, hqc, hqv, hqn, hqs⟩ := hsp.out f hfl
   have hqE := Lib.hid (hpE.out.trans (hoist_q (t := t) (g := g) (at_ := (0 : Int)) (p := p) (f := f) (by omega) hq2))
   have y0 := hqc 0 _ rfl
   have y1 := hqc 1 _ rfl
   have y2 := hqc 2 _ rfl
   have hqt := hqo.tree
   simp only at y0 y1 y2 hqv hqn hqs hqt
   rw [Nat.add_zero] at y0
   have hqle : q.tree.nodes ≤ 100000 := by omega
   have hf0 : ¬ f = 0 := by omega
   have d4n : decide (p.tree.nodes ≤ f) = false := decide_eq_false (by omega)
   have HF0 := Lib.hid hF0
   have HF1 := Lib.hid hF1
   have HPN := Lib.hid hpn
   have HQN := Lib.hid hqn
   have t0 := hB2.cell 0 rfl
   clear hqc hq2 hqo hF0 hF1 hpn hqn
   by_cases hk : q.tree.kind = t.kind
   ·have hE := Lib.hid (hYes.out _ (hqE.out.trans (hoist_yes (by rintro (⟨_, h⟩ | ⟨h, _⟩); exact h hk; exact absurd h (by omega)))))
    have k3 : (q.tree.kind != t.kind) = false := by simp [hk]
    have hk := Lib.hid hk
    go_wp2_with fail
    refine (refNodes_any n p.tree _ (fun j => w2.heap.size ≤ j) _ ⟨pC, pc, rfl, hpt.fr0 (Fr.refl _ _)⟩ (by omega)).mono ?_
    rintro e w4 ⟨rfl, hf4⟩
    clear u0 u1 u2 v0 v1 v2
    have hB3 := hB3.fr hf4 (by simp)
    have u0 := hB3.cell 0 rfl
    have u1 := hB3.cell 1 rfl
    have u2 := hB3.cell 2 rfl
    have v0 := hB3.frozen 0
    have v1 := hB3.frozen 1
    have v2 := hB3.frozen 2
    have hF3 := hF3.trans hf4
    have y0 : w4.cell? ⟨b6, off6 + f * 8, none⟩ = some (.int .i64 q.tree.kind) := hf4.cell y0 (by simp)
    have y1 : w4.cell? ⟨b6, off6 + f * 8 + 1, none⟩ = some (.string q.tree.text) := hf4.cell y1 (by simp)
    have y2 : w4.cell? ⟨b6, off6 + f * 8 + 2, none⟩ = some (.slice qC q.tree.slots.length qc) := hf4.cell y2 (by simp)
    have z5 := hf4.cell z5 (by simp)
    have hB2 := hB2.fr hf4 (by simp)
    have t0 := hB2.cell 0 rfl
    have hqt := hqt.fr0 hf4
    obtain ⟨X, hX⟩ : ∃ X, replT g 0 q.tree t 0 = X := ⟨_, rfl⟩
    have hhn : hoistN g 0 q.tree t = X := by rw [← hX]; rfl
    rw [hhn] at hE
    have HX := Lib.hid hX
    have HC : Hid (∀ w', Fr [] w4 w' → Calls Tryz.prog 67 #[.agg #[.int .i64 t.kind, .string t.text, .slice AT t.slots.length cT], .int .i64 0, .int .i64 0, .agg #[.int .i64 t.kind, .string q.tree.text, .slice qC q.tree.slots.length qc]] w' (RetTN (n + n) w' X t.nodes)) := fun w' hf' => by
     have h := replaced_any g hro 0 q.tree qC qc n (fun j => w2.heap.size ≤ j) hqv hqle n t AT cT S 0 w' (hR.fr0 (Fr.trans hF3 hf')) (hqt.fr0 hf') hval.out (by omega)
     rw [HX.out, Nat.zero_add] at h
     have h2 : Calls Tryz.prog 67 #[.agg #[.int .i64 t.kind, .string t.text, .slice AT t.slots.length cT], .int .i64 0, .int .i64 0, .agg #[.int .i64 q.tree.kind, .string q.tree.text, .slice qC q.tree.slots.length qc]] w' (RetTN (n + n) w' X t.nodes) := h
     rw [hk.out] at h2
     exact h2
    clear hX hhn
    have q0 : w4.cell? ⟨w.heap.size + 1, 0, none⟩ = some (.int .i64 t.kind) := hB2.cell 0 rfl
    have q1 : w4.cell? ⟨w.heap.size + 1, 1, none⟩ = some (.string t.text) := hB2.cell 1 rfl
    have q2 : w4.cell? ⟨w.heap.size + 1, 2, none⟩ = some (.slice AT t.slots.length cT) := hB2.cell 2 rfl
    clear u0 u1 u2 v0 v1 v2
    go_wp2_with fail
    clear k3
    go_region_held3 (fun w' => w'.cell? ⟨w.heap.size + 1, 0, none⟩ = some (.int .i64 t.kind) ∧ w'.cell? ⟨w.heap.size + 1, 1, none⟩ = some (.string t.text) ∧ w'.cell? ⟨w.heap.size + 1, 2, none⟩ = some (.slice AT t.slots.length cT) ∧ w'.cell? ⟨b6, off6 + f * 8, none⟩ = some (.int .i64 q.tree.kind) ∧ w'.cell? ⟨b6, off6 + f * 8 + 1, none⟩ = some (.string q.tree.text) ∧ w'.cell? ⟨b6, off6 + f * 8 + 2, none⟩ = some (.slice qC q.tree.slots.length qc))
     (first
      | with_reducible exact ⟨(fr_three hFb (.inr (Nat.le_refl _)) _ _ _).cell q0 (by simp), (fr_three hFb (.inr (Nat.le_refl _)) _ _ _).cell q1 (by simp), (fr_three hFb (.inr (Nat.le_refl _)) _ _ _).cell q2 (by simp), (fr_three hFb (.inr (Nat.le_refl _)) _ _ _).cell y0 (by simp), (fr_three hFb (.inr (Nat.le_refl _)) _ _ _).cell y1 (by simp), (fr_three hFb (.inr (Nat.le_refl _)) _ _ _).cell y2 (by simp)⟩
      | with_reducible exact ⟨(hFb.alloc _).cell q0 (by simp), (hFb.alloc _).cell q1 (by simp), (hFb.alloc _).cell q2 (by simp), (hFb.alloc _).cell y0 (by simp), (hFb.alloc _).cell y1 (by simp), (hFb.alloc _).cell y2 (by simp)⟩
      | with_reducible exact ⟨(hFb).cell q0 (by simp), (hFb).cell q1 (by simp), (hFb).cell q2 (by simp), (hFb).cell y0 (by simp), (hFb).cell y1 (by simp), (hFb).cell y2 (by simp)⟩
      | with_reducible exact ⟨(((Fr.refl [] w4).alloc _).drew).cell q0 (by simp), (((Fr.refl [] w4).alloc _).drew).cell q1 (by simp), (((Fr.refl [] w4).alloc _).drew).cell q2 (by simp), (((Fr.refl [] w4).alloc _).drew).cell y0 (by simp), (((Fr.refl [] w4).alloc _).drew).cell y1 (by simp), (((Fr.refl [] w4).alloc _).drew).cell y2 (by simp)⟩
      | with_reducible exact ⟨((Fr.refl [] w4).drew).cell q0 (by simp), ((Fr.refl [] w4).drew).cell q1 (by simp), ((Fr.refl [] w4).drew).cell q2 (by simp), ((Fr.refl [] w4).drew).cell y0 (by simp), ((Fr.refl [] w4).drew).cell y1 (by simp), ((Fr.refl [] w4).drew).cell y2 (by simp)⟩
      | (go_keep; done))
     (first
      | (go_at_call 67; refine (calls_zd (V := w4) ?_ (fun e w' ⟨_, _, _, hf, _⟩ => hf) (HC.out _ frx)).mono ?_; (focus ((repeat (first | exact Fr.refl _ _ | apply Fr.drewN | apply Fr.drew | apply Fr.alloc)); done)); rintro e wb ⟨⟨A7, c7, rfl, hfb, hR7⟩, hBz⟩; have hFb : Fr [] w4 wb := (Fr.trans frx hfb); have hzb := hFb.size; have u0 := hBz.cell 0 rfl; have u1 := hBz.cell 1 rfl; have u2 := hBz.cell 2 rfl; have v0 := hBz.frozen 0; have v1 := hBz.frozen 1; have v2 := hBz.frozen 2)
      | (go_at_call 67; refine (HC.out _ frx).mono ?_; rintro e wb ⟨A7, c7, rfl, hfb, hR7⟩; have hFb : Fr [] w4 wb := (Fr.trans frx hfb); have hzb := hFb.size))
    ·obtain ⟨V, hV⟩ : ∃ V, V = wb.alloc (.cells #[.int .i64 X.kind, .string X.text, .slice A7 X.slots.length c7] 27) := ⟨_, rfl⟩
     have hFV : Fr [] w4 V := by rw [hV]; exact hFb.alloc _
     have hBV : Blk V wb.heap.size 27 #[.int .i64 X.kind, .string X.text, .slice A7 X.slots.length c7] := by rw [hV]; exact Blk.new _ _ _ _ rfl
     have hl3 := hB3.lt
     have hRV : RH (fun k => k < w.heap.size ∨ k = w.heap.size + 2) (n + n) V A7 c7 X := by rw [hV]; exact (hR7.fr0 ((Fr.refl _ _).alloc _)).sub fun k _ hk => by have hk : k < w.heap.size ∨ k = w.heap.size + 2 := hk; show k < w4.heap.size; omega
     have HV := Lib.hid hV.symm
     clear hV
     rw [HV.out]
     have hB3 := hB3.fr hFV (by simp)
     have hFw := hF3.trans hFV
     have u0 := hB3.cell 0 rfl
     have u1 := hB3.cell 1 rfl
     have u2 := hB3.cell 2 rfl
     have v0 := hB3.frozen 0
     have v1 := hB3.frozen 1
     have v2 := hB3.frozen 2
     have m0 := hBV.cell 0 rfl
     have m1 := hBV.cell 1 rfl
     have m2 := hBV.cell 2 rfl
     clear q0 q1 q2 hfb HV
     go_wp2_with fail
     refine bodyPost_ret (results_tree2 rfl _ _ (w.heap.size + 2) rfl (hB3.three _ _ _)) rfl ?_
     rw [hE.out]
     exact ⟨A7, c7, rfl, fr_three hFw (.inr (by omega)) _ _ _, RH_far hRV⟩
    ·obtain ⟨V, hV⟩ : ∃ V, V = ((wb.setCell ⟨w4.heap.size, 0, none⟩ (.int .i64 X.kind)).setCell ⟨w4.heap.size, 1, none⟩ (.string X.text)).setCell ⟨w4.heap.size, 2, none⟩ (.slice A7 X.slots.length c7) := ⟨_, rfl⟩
     have hFV : Fr [] w4 V := by rw [hV]; exact fr_three hFb (.inr (Nat.le_refl _)) _ _ _
     have hBV : Blk V w4.heap.size 27 #[.int .i64 X.kind, .string X.text, .slice A7 X.slots.length c7] := by rw [hV]; exact hBz.three _ _ _
     have hl3 := hB3.lt
     have hRV : RH (fun k => k < w.heap.size ∨ k = w.heap.size + 2) (n + n) V A7 c7 X := by rw [hV]; exact (hR7.fr (Z := [w4.heap.size]) (fr_three (Fr.refl _ _) (.inl (by simp)) _ _ _) (fun k hk => by have hk : k = w4.heap.size := (by simpa using hk); subst hk; show w4.heap.size < ((w4.alloc zeroO).drew).heap.size; simp)).sub fun k _ hk => by have hk : k < w.heap.size ∨ k = w.heap.size + 2 := hk; show k < ((w4.alloc zeroO).drew).heap.size; simp; omega
     have HV := Lib.hid hV.symm
     clear hV
     rw [HV.out]
     have hB3 := hB3.fr hFV (by simp)
     have hFw := hF3.trans hFV
     have u0 := hB3.cell 0 rfl
     have u1 := hB3.cell 1 rfl
     have u2 := hB3.cell 2 rfl
     have v0 := hB3.frozen 0
     have v1 := hB3.frozen 1
     have v2 := hB3.frozen 2
     have m0 := hBV.cell 0 rfl
     have m1 := hBV.cell 1 rfl
     have m2 := hBV.cell 2 rfl
     clear q0 q1 q2 hfb HV
     go_wp2_with fail
     refine bodyPost_ret (results_tree2 rfl _ _ (w.heap.size + 2) rfl (hB3.three _ _ _)) rfl ?_
     rw [hE.out]
     exact ⟨A7, c7, rfl, fr_three hFw (.inr (by omega)) _ _ _, RH_far hRV⟩
   ·have hE := Lib.hid (hErr.out (hqE.out.trans (hoist_bad (.inl ⟨rfl, hk⟩))))
    have k3 : (q.tree.kind != t.kind) = true := by simpa using hk
    have hk := Lib.hid hk
    go_wp2_with fail
    refine (refNodes_any n p.tree _ (fun j => w2.heap.size ≤ j) _ ⟨pC, pc, rfl, hpt.fr0 (Fr.refl _ _)⟩ (by omega)).mono ?_
    rintro e w4 ⟨rfl, hf4⟩
    clear u0 u1 u2 v0 v1 v2
    have hB3 := hB3.fr hf4 (by simp)
    have u0 := hB3.cell 0 rfl
    have u1 := hB3.cell 1 rfl
    have u2 := hB3.cell 2 rfl
    have v0 := hB3.frozen 0
    have v1 := hB3.frozen 1
    have v2 := hB3.frozen 2
    have hF3 := hF3.trans hf4
    have y0 : w4.cell? ⟨b6, off6 + f * 8, none⟩ = some (.int .i64 q.tree.kind) := hf4.cell y0 (by simp)
    have y1 : w4.cell? ⟨b6, off6 + f * 8 + 1, none⟩ = some (.string q.tree.text) := hf4.cell y1 (by simp)
    have y2 : w4.cell? ⟨b6, off6 + f * 8 + 2, none⟩ = some (.slice qC q.tree.slots.length qc) := hf4.cell y2 (by simp)
    have z5 := hf4.cell z5 (by simp)
    have hB2 := hB2.fr hf4 (by simp)
    have t0 := hB2.cell 0 rfl
    have hqt := hqt.fr0 hf4
    go_wp2_with fail
    refine bodyPost_ret (results_tree2 rfl _ _ (w.heap.size + 2) rfl (hB3.three _ _ _)) rfl ?_
    rw [hE.out]
    exact zeroT_n hF3 (by omega) _ hnn
  ·obtain ⟨a, rfl⟩ : ∃ a : Nat, at_ = a := ⟨at_.toNat, by omega⟩
   have hal : a < t.nodes := by omega
   have d1 : decide ((a : Int) < 0) = false := decide_eq_false hA0
   have d2 : decide ((t.nodes : Int) ≤ (a : Int)) = false := decide_eq_false hA1
   have d2n : decide (t.nodes ≤ a) = false := decide_eq_false (by omega)
   obtain ⟨⟨⟨p, ⟨pC, pc⟩, pD⟩, pab⟩, _, hp2, hpo, hpc, hpv, hpn, hps⟩ := hsp.out a hal
   have hpE : Hid (hoistOf g t (a : Int) from_ = hoistP g t (spotsT g t slot0 1) (a : Int) from_ p) := hoist_p (a := a) (from_ := from_) hal hp2
   have z0 := hpc 0 _ rfl
   have z1 := hpc 1 _ rfl
   have z2 := hpc 2 _ rfl
   have z5 := hpc 5 _ rfl
   have hpt := hpo.tree
   have hpk := hpo.kinds
   simp only at z0 z1 z2 z5 hps hpn hpv hpt hpk
   rw [Nat.add_zero] at z0
   have hpb : p.tree.nodes ≤ 1024 := by omega
   have HP2 := Lib.hid hp2
   have HPO := Lib.hid hpo
   have HA1 := Lib.hid hA1
   have HA0 := Lib.hid hA0
   clear hpc hp2 hpo hA0 hA1
   have hap : 0 < a := by omega
   have k1 : ((a : Int) == 0) = false := by simpa using hz
   have ha0 : ¬ a = 0 := by omega
   have k2 : decide (0 < (a : Int)) = true := decide_eq_true (by omega)
   have k2n : decide (0 < a) = true := decide_eq_true hap
   have HZ := Lib.hid hz
   clear hz
   by_cases hF0 : from_ ≤ (a : Int)
   ·have hE := hErr.out (hpE.out.trans (hoist_p_no (g := g) (t := t) (p := p) (l := spotsT g t slot0 1) (.inl hF0)))
    have hE := Lib.hid hE
    have d3 : decide (from_ ≤ (a : Int)) = true := decide_eq_true hF0
    have hF0 := Lib.hid hF0
    go_wp2_with fail
    refine bodyPost_ret (results_tree2 rfl _ _ (w.heap.size + 2) rfl (hB3.three _ _ _)) rfl ?_
    rw [hE.out]
    exact zeroT_n hF3 (by omega) _ hnn
   have hwr : IntKind.i64.wrap ((a : Int) + (p.tree.nodes : Int)) = (a : Int) + (p.tree.nodes : Int) := IntWalk.i64_in _ (by omega)
   have d3 : decide (from_ ≤ (a : Int)) = false := decide_eq_false hF0
   by_cases hF1 : ((a : Int) + (p.tree.nodes : Int)) ≤ from_
   ·have hE := Lib.hid (hErr.out (hpE.out.trans (hoist_p_no (g := g) (t := t) (p := p) (l := spotsT g t slot0 1) (.inr (by omega)))))
    have d4 : decide (((a : Int) + (p.tree.nodes : Int)) ≤ from_) = true := decide_eq_true hF1
    have hpnn := Lib.hid hpn
    have hF0 := Lib.hid hF0
    have hF1 := Lib.hid hF1
    clear hpn
    go_wp2_with fail
    refine (refNodes_any n p.tree _ (fun j => w2.heap.size ≤ j) _ ⟨pC, pc, rfl, hpt.fr0 (Fr.refl _ _)⟩ (by omega)).mono ?_
    rintro e w4 ⟨rfl, hf4⟩
    clear u0 u1 u2 v0 v1 v2
    have hB3 := hB3.fr hf4 (by simp)
    have u0 := hB3.cell 0 rfl
    have u1 := hB3.cell 1 rfl
    have u2 := hB3.cell 2 rfl
    have v0 := hB3.frozen 0
    have v1 := hB3.frozen 1
    have v2 := hB3.frozen 2
    have hF3 := hF3.trans hf4
    go_wp2_with fail
    refine bodyPost_ret (results_tree2 rfl _ _ (w.heap.size + 2) rfl (hB3.three _ _ _)) rfl ?_
    rw [hE.out]
    exact zeroT_n hF3 (by omega) _ hnn
   have d4 : decide (((a : Int) + (p.tree.nodes : Int)) ≤ from_) = false := decide_eq_false hF1
   obtain ⟨f, rfl⟩ : ∃ f : Nat, from_ = f := ⟨from_.toNat, by omega⟩
   have hfl : f < t.nodes := by omega
   obtain ⟨⟨⟨q, ⟨qC, qc⟩, qD⟩, qab⟩, _, hq2, hqo, hqc, hqv, hqn, hqs⟩ := hsp.out f hfl
   have hqE := Lib.hid (hpE.out.trans (hoist_q (t := t) (g := g) (at_ := (a : Int)) (p := p) (f := f) (by omega) hq2))
   have y0 := hqc 0 _ rfl
   have y1 := hqc 1 _ rfl
   have y2 := hqc 2 _ rfl
   have hqt := hqo.tree
   simp only at y0 y1 y2 hqv hqn hqs hqt
   rw [Nat.add_zero] at y0
   have hqle : q.tree.nodes ≤ 100000 := by omega
   have d3n : decide (f ≤ a) = false := decide_eq_false (by omega)
   have d4n : decide (a + p.tree.nodes ≤ f) = false := decide_eq_false (by omega)
   have HF0 := Lib.hid hF0
   have HF1 := Lib.hid hF1
   have HPN := Lib.hid hpn
   have HQN := Lib.hid hqn
   have t0 := hB2.cell 0 rfl
   clear hqc hq2 hqo hF0 hF1 hpn hqn
   rcases hk : decide (q.tree.kind ∈ p.slot.kinds) with _ | _
   ·have hE := Lib.hid (hErr.out (hqE.out.trans (hoist_bad (.inr ⟨by omega, by simpa using hk⟩))))
    have HKD := Lib.hid hk
    clear hk
    go_wp2_with fail
    refine (refNodes_any n p.tree _ (fun j => w2.heap.size ≤ j) _ ⟨pC, pc, rfl, hpt.fr0 (Fr.refl _ _)⟩ (by omega)).mono ?_
    rintro e w4 ⟨rfl, hf4⟩
    clear u0 u1 u2 v0 v1 v2
    have hB3 := hB3.fr hf4 (by simp)
    have u0 := hB3.cell 0 rfl
    have u1 := hB3.cell 1 rfl
    have u2 := hB3.cell 2 rfl
    have v0 := hB3.frozen 0
    have v1 := hB3.frozen 1
    have v2 := hB3.frozen 2
    have hF3 := hF3.trans hf4
    have y0 : w4.cell? ⟨b6, off6 + f * 8, none⟩ = some (.int .i64 q.tree.kind) := hf4.cell y0 (by simp)
    have y1 : w4.cell? ⟨b6, off6 + f * 8 + 1, none⟩ = some (.string q.tree.text) := hf4.cell y1 (by simp)
    have y2 : w4.cell? ⟨b6, off6 + f * 8 + 2, none⟩ = some (.slice qC q.tree.slots.length qc) := hf4.cell y2 (by simp)
    have z5 := hf4.cell z5 (by simp)
    have hB2 := hB2.fr hf4 (by simp)
    have t0 := hB2.cell 0 rfl
    have hqt := hqt.fr0 hf4
    go_wp2_with fail
    refine (Has_any pD.1 pD.2 p.slot.kinds q.tree.kind _ (hpk.fr0 hf4)).mono ?_
    rw [HKD.out]
    rintro e w6 ⟨rfl, n6, rfl⟩
    go_wp2_with fail
    refine bodyPost_ret (results_tree2 rfl _ _ (w.heap.size + 2) rfl ((hB3.drewN _).three _ _ _)) rfl ?_
    rw [hE.out]
    exact zeroT_n (hF3.drewN _) (by omega) _ hnn
   ·have hE := Lib.hid (hYes.out _ (hqE.out.trans (hoist_yes (by rintro (⟨h, _⟩ | ⟨_, h⟩); exact absurd h (by omega); exact h (by simpa using hk)))))
    have HKD := Lib.hid hk
    clear hk
    go_wp2_with fail
    refine (refNodes_any n p.tree _ (fun j => w2.heap.size ≤ j) _ ⟨pC, pc, rfl, hpt.fr0 (Fr.refl _ _)⟩ (by omega)).mono ?_
    rintro e w4 ⟨rfl, hf4⟩
    clear u0 u1 u2 v0 v1 v2
    have hB3 := hB3.fr hf4 (by simp)
    have u0 := hB3.cell 0 rfl
    have u1 := hB3.cell 1 rfl
    have u2 := hB3.cell 2 rfl
    have v0 := hB3.frozen 0
    have v1 := hB3.frozen 1
    have v2 := hB3.frozen 2
    have hF3 := hF3.trans hf4
    have y0 : w4.cell? ⟨b6, off6 + f * 8, none⟩ = some (.int .i64 q.tree.kind) := hf4.cell y0 (by simp)
    have y1 : w4.cell? ⟨b6, off6 + f * 8 + 1, none⟩ = some (.string q.tree.text) := hf4.cell y1 (by simp)
    have y2 : w4.cell? ⟨b6, off6 + f * 8 + 2, none⟩ = some (.slice qC q.tree.slots.length qc) := hf4.cell y2 (by simp)
    have z5 := hf4.cell z5 (by simp)
    have hB2 := hB2.fr hf4 (by simp)
    have t0 := hB2.cell 0 rfl
    have hqt := hqt.fr0 hf4
    go_wp2_with fail
    refine (Has_any pD.1 pD.2 p.slot.kinds q.tree.kind _ (hpk.fr0 hf4)).mono ?_
    rw [HKD.out]
    rintro e w6 ⟨rfl, n6, rfl⟩
    obtain ⟨w5, hw5⟩ : ∃ w5, w5 = w4.drewN n6 := ⟨_, rfl⟩
    have hd5 : Fr [] w4 w5 := by rw [hw5]; exact frx
    have hF5 := hF3.trans hd5
    have hB25 := hB2.fr hd5 (by simp)
    have hB3 := hB3.fr hd5 (by simp)
    have hqt5 := hqt.fr0 hd5
    have y0 : w5.cell? ⟨b6, off6 + f * 8, none⟩ = some (.int .i64 q.tree.kind) := hd5.cell y0 (by simp)
    have y1 : w5.cell? ⟨b6, off6 + f * 8 + 1, none⟩ = some (.string q.tree.text) := hd5.cell y1 (by simp)
    have y2 : w5.cell? ⟨b6, off6 + f * 8 + 2, none⟩ = some (.slice qC q.tree.slots.length qc) := hd5.cell y2 (by simp)
    rw [← hw5]
    clear hw5 u0 u1 u2 v0 v1 v2 t0 z5
    obtain ⟨X, hX⟩ : ∃ X, replT g (a : Int) q.tree t 0 = X := ⟨_, rfl⟩
    have hhn : hoistN g (a : Int) q.tree t = X := by rw [← hX]; rfl
    rw [hhn] at hE
    have HX := Lib.hid hX
    have HC : Hid (∀ w', Fr [] w5 w' → Calls Tryz.prog 67 #[.agg #[.int .i64 t.kind, .string t.text, .slice AT t.slots.length cT], .int .i64 0, .int .i64 (a : Int), .agg #[.int .i64 q.tree.kind, .string q.tree.text, .slice qC q.tree.slots.length qc]] w' (RetTN (n + n) w' X t.nodes)) := fun w' hf' => by
     have h := replaced_any g hro (a : Int) q.tree qC qc n (fun j => w2.heap.size ≤ j) hqv hqle n t AT cT S 0 w' (hR.fr0 (Fr.trans hF5 hf')) (hqt5.fr0 hf') hval.out (by omega)
     rw [HX.out, Nat.zero_add] at h
     exact h
    clear hX hhn
    have q0 : w5.cell? ⟨w.heap.size + 1, 0, none⟩ = some (.int .i64 t.kind) := hB25.cell 0 rfl
    have q1 : w5.cell? ⟨w.heap.size + 1, 1, none⟩ = some (.string t.text) := hB25.cell 1 rfl
    have q2 : w5.cell? ⟨w.heap.size + 1, 2, none⟩ = some (.slice AT t.slots.length cT) := hB25.cell 2 rfl
    go_wp2_with fail
    go_region_held3 (fun w' => w'.cell? ⟨w.heap.size + 1, 0, none⟩ = some (.int .i64 t.kind) ∧ w'.cell? ⟨w.heap.size + 1, 1, none⟩ = some (.string t.text) ∧ w'.cell? ⟨w.heap.size + 1, 2, none⟩ = some (.slice AT t.slots.length cT) ∧ w'.cell? ⟨b6, off6 + f * 8, none⟩ = some (.int .i64 q.tree.kind) ∧ w'.cell? ⟨b6, off6 + f * 8 + 1, none⟩ = some (.string q.tree.text) ∧ w'.cell? ⟨b6, off6 + f * 8 + 2, none⟩ = some (.slice qC q.tree.slots.length qc))
     (first
      | with_reducible exact ⟨(fr_three hFb (.inr (Nat.le_refl _)) _ _ _).cell q0 (by simp), (fr_three hFb (.inr (Nat.le_refl _)) _ _ _).cell q1 (by simp), (fr_three hFb (.inr (Nat.le_refl _)) _ _ _).cell q2 (by simp), (fr_three hFb (.inr (Nat.le_refl _)) _ _ _).cell y0 (by simp), (fr_three hFb (.inr (Nat.le_refl _)) _ _ _).cell y1 (by simp), (fr_three hFb (.inr (Nat.le_refl _)) _ _ _).cell y2 (by simp)⟩
      | with_reducible exact ⟨(hFb.alloc _).cell q0 (by simp), (hFb.alloc _).cell q1 (by simp), (hFb.alloc _).cell q2 (by simp), (hFb.alloc _).cell y0 (by simp), (hFb.alloc _).cell y1 (by simp), (hFb.alloc _).cell y2 (by simp)⟩
      | with_reducible exact ⟨(hFb).cell q0 (by simp), (hFb).cell q1 (by simp), (hFb).cell q2 (by simp), (hFb).cell y0 (by simp), (hFb).cell y1 (by simp), (hFb).cell y2 (by simp)⟩
      | with_reducible exact ⟨(((Fr.refl [] w5).alloc _).drew).cell q0 (by simp), (((Fr.refl [] w5).alloc _).drew).cell q1 (by simp), (((Fr.refl [] w5).alloc _).drew).cell q2 (by simp), (((Fr.refl [] w5).alloc _).drew).cell y0 (by simp), (((Fr.refl [] w5).alloc _).drew).cell y1 (by simp), (((Fr.refl [] w5).alloc _).drew).cell y2 (by simp)⟩
      | with_reducible exact ⟨((Fr.refl [] w5).drew).cell q0 (by simp), ((Fr.refl [] w5).drew).cell q1 (by simp), ((Fr.refl [] w5).drew).cell q2 (by simp), ((Fr.refl [] w5).drew).cell y0 (by simp), ((Fr.refl [] w5).drew).cell y1 (by simp), ((Fr.refl [] w5).drew).cell y2 (by simp)⟩
      | (go_keep; done))
     (first
      | (go_at_call 67; refine (calls_zd (V := w5) ?_ (fun e w' ⟨_, _, _, hf, _⟩ => hf) (HC.out _ frx)).mono ?_; (focus ((repeat (first | exact Fr.refl _ _ | apply Fr.drewN | apply Fr.drew | apply Fr.alloc)); done)); rintro e wb ⟨⟨A7, c7, rfl, hfb, hR7⟩, hBz⟩; have hFb : Fr [] w5 wb := (Fr.trans frx hfb); have hzb := hFb.size; have u0 := hBz.cell 0 rfl; have u1 := hBz.cell 1 rfl; have u2 := hBz.cell 2 rfl; have v0 := hBz.frozen 0; have v1 := hBz.frozen 1; have v2 := hBz.frozen 2)
      | (go_at_call 67; refine (HC.out _ frx).mono ?_; rintro e wb ⟨A7, c7, rfl, hfb, hR7⟩; have hFb : Fr [] w5 wb := (Fr.trans frx hfb); have hzb := hFb.size))
    ·obtain ⟨V, hV⟩ : ∃ V, V = wb.alloc (.cells #[.int .i64 X.kind, .string X.text, .slice A7 X.slots.length c7] 27) := ⟨_, rfl⟩
     have hFV : Fr [] w5 V := by rw [hV]; exact hFb.alloc _
     have hBV : Blk V wb.heap.size 27 #[.int .i64 X.kind, .string X.text, .slice A7 X.slots.length c7] := by rw [hV]; exact Blk.new _ _ _ _ rfl
     have hl3 := hB3.lt
     have hRV : RH (fun k => k < w.heap.size ∨ k = w.heap.size + 2) (n + n) V A7 c7 X := by rw [hV]; exact (hR7.fr0 ((Fr.refl _ _).alloc _)).sub fun k _ hk => by have hk : k < w.heap.size ∨ k = w.heap.size + 2 := hk; show k < w5.heap.size; omega
     have HV := Lib.hid hV.symm
     clear hV
     rw [HV.out]
     have hB3 := hB3.fr hFV (by simp)
     have hFw := hF5.trans hFV
     have u0 := hB3.cell 0 rfl
     have u1 := hB3.cell 1 rfl
     have u2 := hB3.cell 2 rfl
     have v0 := hB3.frozen 0
     have v1 := hB3.frozen 1
     have v2 := hB3.frozen 2
     have m0 := hBV.cell 0 rfl
     have m1 := hBV.cell 1 rfl
     have m2 := hBV.cell 2 rfl
     clear q0 q1 q2 hfb HV
     go_wp2_with fail
     refine bodyPost_ret (results_tree2 rfl _ _ (w.heap.size + 2) rfl (hB3.three _ _ _)) rfl ?_
     rw [hE.out]
     exact ⟨A7, c7, rfl, fr_three hFw (.inr (by omega)) _ _ _, RH_far hRV⟩
    ·obtain ⟨V, hV⟩ : ∃ V, V = ((wb.setCell ⟨w5.heap.size, 0, none⟩ (.int .i64 X.kind)).setCell ⟨w5.heap.size, 1, none⟩ (.string X.text)).setCell ⟨w5.heap.size, 2, none⟩ (.slice A7 X.slots.length c7) := ⟨_, rfl⟩
     have hFV : Fr [] w5 V := by rw [hV]; exact fr_three hFb (.inr (Nat.le_refl _)) _ _ _
     have hBV : Blk V w5.heap.size 27 #[.int .i64 X.kind, .string X.text, .slice A7 X.slots.length c7] := by rw [hV]; exact hBz.three _ _ _
     have hl3 := hB3.lt
     have hRV : RH (fun k => k < w.heap.size ∨ k = w.heap.size + 2) (n + n) V A7 c7 X := by rw [hV]; exact (hR7.fr (Z := [w5.heap.size]) (fr_three (Fr.refl _ _) (.inl (by simp)) _ _ _) (fun k hk => by have hk : k = w5.heap.size := (by simpa using hk); subst hk; show w5.heap.size < ((w5.alloc zeroO).drew).heap.size; simp)).sub fun k _ hk => by have hk : k < w.heap.size ∨ k = w.heap.size + 2 := hk; show k < ((w5.alloc zeroO).drew).heap.size; simp; omega
     have HV := Lib.hid hV.symm
     clear hV
     rw [HV.out]
     have hB3 := hB3.fr hFV (by simp)
     have hFw := hF5.trans hFV
     have u0 := hB3.cell 0 rfl
     have u1 := hB3.cell 1 rfl
     have u2 := hB3.cell 2 rfl
     have v0 := hB3.frozen 0
     have v1 := hB3.frozen 1
     have v2 := hB3.frozen 2
     have m0 := hBV.cell 0 rfl
     have m1 := hBV.cell 1 rfl
     have m2 := hBV.cell 2 rfl
     clear q0 q1 q2 hfb HV
     go_wp2_with fail
     refine bodyPost_ret (results_tree2 rfl _ _ (w.heap.size + 2) rfl (hB3.three _ _ _)) rfl ?_
     rw [hE.out]
     exact ⟨A7, c7, rfl, fr_three hFw (.inr (by omega)) _ _ _, RH_far hRV⟩
 ·have hE := Lib.hid (hoistE_err (at_ := at_) (from_ := from_) hez)
  have hd : (chkT g L t != 0) = true := by simpa using hez
  have hez := Lib.hid hez
  generalize chkT g L t = ev at *
  have u0 := hB3.cell 0 rfl
  have u1 := hB3.cell 1 rfl
  have u2 := hB3.cell 2 rfl
  have v0 := hB3.frozen 0
  have v1 := hB3.frozen 1
  have v2 := hB3.frozen 2
  go_wp2_with fail
  refine bodyPost_ret (results_tree2 rfl _ _ (w.heap.size + 2) rfl (hB3.three _ _ _)) rfl ?_
  rw [hE.out]
  exact zeroT_n hF2 (by omega) _ hnn
end

/- Prunable of the reference; its Spots is a premise. -/
section
open Go.RowKit
set_option maxRecDepth 20000 in
set_option maxHeartbeats 6400000 in
theorem refPrunable_any (A : Option Addr) (c : Nat) (g : List Ru) (L : List Int) (n : Nat) (t : T) (v : Value) (S : Nat → Prop) (w : World) (ha : RRu w A c g) (hL : rulesErr g = 0 → LOk g L) (ht : RT S n w v t) (hn : t.nodes ≤ 1024)
  (hSp : ∀ w', Fr [] w w' → Val g t → Calls Tryz.prog 64 #[.agg #[.slice A g.length c], v] w' (RetSpR g t n w')) :
  Calls Tryz.prog 35 #[.agg #[.slice A g.length c], v] w (RetNE w (prunOf g L t)) := by
 obtain ⟨AT, cT, rfl, hR⟩ := ht
 obtain ⟨W, hW⟩ : ∃ W, W = (w.alloc (.cells #[.slice A g.length c] 24)).alloc (.cells (tcells t AT cT) 27) := ⟨_, rfl⟩
 have hF : Fr [] w W := by rw [hW]; exact frx
 have hB1 : Blk W w.heap.size 24 #[.slice A g.length c] := by rw [hW]; exact (Blk.new w _ _ _ rfl).alloc _
 have hB2 : Blk W (w.heap.size + 1) 27 (tcells t AT cT) := by rw [hW]; exact Blk.new _ _ _ _ (by simp)
 have q0 := hB1.cell 0 rfl
 have p0 := hB2.cell 0 rfl
 have p1 := hB2.cell 1 rfl
 have p2 := hB2.cell 2 rfl
 rw [hW] at q0 p0 p1 p2
 have HW := Lib.hid hW.symm
 clear hW
 go_enter Tryz.func35, Tryz.ntmps35
 go_wp2_with fail
 rw [HW.out]
 clear q0 p0 p1 p2
 refine (refCheckTree_any A c g L n t _ S _ (ha.fr0 hF) hL ⟨AT, cT, rfl, hR.fr0 hF⟩ (by omega)).mono ?_
 rintro e w1 ⟨rfl, hf1⟩
 have hB1 := hB1.fr hf1 (by simp)
 have hB2 := hB2.fr hf1 (by simp)
 have hF1 := hF.trans hf1
 by_cases hez : chkT g L t = 0
 ·have hE := Lib.hid (prunOf_ok hez)
  obtain ⟨hcg, _, _, hval, hrok⟩ := chkT_zero hez
  obtain ⟨hg0, hg32, hre, _⟩ := chk_zero hcg
  have hle := fun (k : Nat) (hk : k < g.length) => (chk_sz hcg hL hk).2.1
  have hok := hL hre
  have hlen : Hid (L.length = g.length) := hok.sz.1
  have hlm : Hid ((L.map dnI).length = g.length) := by show _ = _; rw [List.length_map]; exact hok.sz.1
  have hne : g ≠ [] := fun h => hg0 (by rw [h]; rfl)
  have HSL := Lib.hid (spots_len t hval slot0 1)
  have HOKS := Lib.hid (spots_ok hrok t hval 1)
  have HV := Lib.hid hval
  have HLE := Lib.hid hle
  have HNE := Lib.hid hne
  rw [hez]
  clear hez hcg hval hrok hg0 hle hne
  have q0 := hB1.cell 0 rfl
  go_wp2_with fail
  refine (refsizes_any A c g L _ (ha.fr0 hF1) HNE.out hg32 hok.ok hok.sz hok.pos).mono ?_
  rintro e w2 ⟨A5, c5, rfl, hf2, hr5⟩
  rw [hlm.out]
  have hB1 := hB1.fr hf2 (by simp)
  have hB2 := hB2.fr hf2 (by simp)
  have hF2 := hF1.trans hf2
  have q0 := hB1.cell 0 rfl
  have p0 := hB2.cell 0 rfl
  have p1 := hB2.cell 1 rfl
  have p2 := hB2.cell 2 rfl
  go_wp2_with fail
  refine (hSp _ hF2 HV.out).mono ?_
  rintro e w3 ⟨A6, c6, G, rfl, hf3, hGm, hG, hGo⟩
  have hF3 := hF2.trans hf3
  have hr53 := hr5.fr0 hf3
  clear q0 p0 p1 p2 hSp
  have hGl : Hid (G.length = t.nodes) := by show _ = _; rw [← HSL.out, ← hGm, List.length_map]
  have hnp := T.nodes_pos t
  obtain ⟨b6, off6, rfl, hcell⟩ := hG (by rw [encR_len, hGl.out]; omega)
  have hsp : Hid (∀ (k : Nat), k < t.nodes → ∃ p : SpR, G[k]? = some p ∧ (spotsT g t slot0 1)[k]? = some p.1.1 ∧ SpOk w2.heap.size n w3 p.1 ∧ (∀ j u, (encR p)[j]? = some u → w3.cell? ⟨b6, off6 + k * 8 + j, none⟩ = some u) ∧ p.1.1.tree.nodes = p.1.1.size ∧ p.1.1.size ≤ t.nodes) := fun k hk => by
   obtain ⟨p, h1⟩ : ∃ p, G[k]? = some p := ⟨_, List.getElem?_eq_getElem (by rw [hGl.out]; exact hk)⟩
   have h2 : (spotsT g t slot0 1)[k]? = some p.1.1 := by rw [← hGm, List.getElem?_map, h1]; rfl
   obtain ⟨h3, h4, h5⟩ := spots_in t HV.out slot0 1 k _ h2
   refine ⟨p, h1, h2, hGo _ (List.mem_of_getElem? h1), fun j u hu => ?_, h4, by omega⟩
   rw [Nat.add_assoc]
   exact hcell _ _ (encR_at G k _ h1 j u hu)
  clear hcell hG hGm hGo
  go_wp2_with fail
  go_loopw [9, 10] (fun ov i wr => ∃ k : Nat, 1 ≤ k ∧ k ≤ t.nodes ∧ i = .int .i64 k ∧ GathN w3 3 (prunIx L (spotsT g t slot0 1) k) ov wr) (fun _ i _ => t.nodes - (intOf i).toNat)
  case atStart => exact ⟨1, Nat.le_refl _, hnp, rfl, by rw [prunIx_no (prunAt_zero _ _)]; exact GathN.start _ _ rfl⟩
  case round =>
   obtain ⟨k, hk1, hk, rfl, A7, c7, rfl, ho7, hf7⟩ := hrel
   have hpl := prunIx_le L (spotsT g t slot0 1) k
   by_cases hlt : k < t.nodes
   ·obtain ⟨⟨⟨p, ⟨pC, pc⟩, ⟨pD, pd⟩⟩, pab⟩, _, hp2, hpo, hpc, hpn, hps⟩ := hsp.out k hlt
    simp only at hpn hps
    have y0 : wr.cell? ⟨b6, off6 + k * 8, none⟩ = some (.int .i64 p.tree.kind) := hf7.cell (hpc 0 _ rfl) (by simp)
    have y1 : wr.cell? ⟨b6, off6 + k * 8 + 1, none⟩ = some (.string p.tree.text) := hf7.cell (hpc 1 _ rfl) (by simp)
    have y2 : wr.cell? ⟨b6, off6 + k * 8 + 2, none⟩ = some (.slice pC p.tree.slots.length pc) := hf7.cell (hpc 2 _ rfl) (by simp)
    have y4 : wr.cell? ⟨b6, off6 + k * 8 + 4, none⟩ = some (.int .u8 p.slot.many) := hf7.cell (hpc 4 _ rfl) (by simp)
    have y5 : wr.cell? ⟨b6, off6 + k * 8 + 5, none⟩ = some (.slice pD p.slot.kinds.length pd) := hf7.cell (hpc 5 _ rfl) (by simp)
    have y6 : wr.cell? ⟨b6, off6 + k * 8 + 6, none⟩ = some (.string p.slot.between) := hf7.cell (hpc 6 _ rfl) (by simp)
    have hpt : RH (fun j => w2.heap.size ≤ j) n wr pC pc p.tree := (hpo.tree).fr0 hf7
    have hpk : Rd wr (.int .i64) pD pd p.slot.kinds := (hpo.kinds).fr0 hf7
    have hpa := prunAt_pos (L := L) (show 0 < k by omega) hp2
    have hmem : p ∈ restT g t 1 := by
     obtain ⟨k', hk'⟩ : ∃ k', k = k' + 1 := ⟨k - 1, by omega⟩
     rw [hk', spotsT_eq, List.getElem?_cons_succ] at hp2
     exact List.mem_of_getElem? hp2
    obtain ⟨⟨hk0, hkr⟩, _⟩ := HOKS.out p hmem
    have hjm := hkr _ (lowest_mem (L := L) hk0)
    obtain ⟨jn, hjn⟩ : ∃ jn : Nat, lowestL L p.slot.kinds = jn := ⟨(lowestL L p.slot.kinds).toNat, by omega⟩
    have hjl : jn < g.length := by omega
    have hj2 := HLE.out jn hjl
    have hch : choiceF (L.map dnI) p.slot.kinds = (jn : Int) := by
     have hks2 := hkr
     rw [← hok.sz.1] at hks2
     rcases choice_eq hok.pos hk0 hks2 with h | h
     ·rw [h.1, hjn]
     ·rw [hjn] at h; omega
    have hr7 := hr53.fr0 hf7
    obtain ⟨b3, o3, z, rfl, hz, hc3⟩ := hr7.at_ (k := jn) (by rw [hlm.out]; exact hjl)
    have hzv : getI L (jn : Int) = z := by
     have h1 := hz.out
     rw [List.getElem?_map, Option.map_eq_some_iff] at h1
     obtain ⟨y, hy, h2⟩ := h1
     rw [getI_at hy] at hj2 ⊢
     unfold dnI at h2
     rw [if_pos hj2] at h2
     exact h2
    have hB : Hid (prunB L p = (p.slot.many != 0 || decide (z < (p.tree.nodes : Int)))) := by show _ = _; unfold prunB; rw [hjn, hzv, hpn]
    have HC := Lib.hid hch
    have HKR := Lib.hid hkr
    obtain ⟨mv, hmv⟩ : ∃ mv, p.slot.many = mv := ⟨_, rfl⟩
    rw [hmv] at y4 hB
    have hpb : p.tree.nodes ≤ 1024 := by omega
    have HPN := Lib.hid hpn
    clear hpc hp2 hpo hmem hk0 hkr hjm hjn hch hmv hpn hzv hj2
    by_cases hmz : mv = 0
    ·subst hmz
     rcases hlz : decide (z < (p.tree.nodes : Int)) with _ | _
     ·have hpf : prunAt L (spotsT g t slot0 1) k = false := by rw [hpa, hB.out, hlz]; rfl
      have hst := Lib.hid (prunIx_no hpf)
      clear hpa hpf
      go_wp2_with fail
      go_region_held3 (fun w' => w'.cell? ⟨b6, off6 + k * 8 + 4, none⟩ = some (.int .u8 0) ∧ w'.cell? ⟨b6, off6 + k * 8, none⟩ = some (.int .i64 p.tree.kind) ∧ w'.cell? ⟨b6, off6 + k * 8 + 1, none⟩ = some (.string p.tree.text) ∧ w'.cell? ⟨b6, off6 + k * 8 + 2, none⟩ = some (.slice pC p.tree.slots.length pc) ∧ w'.cell? ⟨b6, off6 + k * 8 + 5, none⟩ = some (.slice pD p.slot.kinds.length pd) ∧ w'.cell? ⟨b6, off6 + k * 8 + 6, none⟩ = some (.string p.slot.between) ∧ w'.cell? ⟨b3, o3 + jn, none⟩ = some (.int .i64 z))
       (first
        | with_reducible exact ⟨(hFa).cell y4 (by simp), (hFa).cell y0 (by simp), (hFa).cell y1 (by simp), (hFa).cell y2 (by simp), (hFa).cell y5 (by simp), (hFa).cell y6 (by simp), (hFa).cell hc3 (by simp)⟩
        | with_reducible exact ⟨((Fr.refl [] wr).drew).cell y4 (by simp), ((Fr.refl [] wr).drew).cell y0 (by simp), ((Fr.refl [] wr).drew).cell y1 (by simp), ((Fr.refl [] wr).drew).cell y2 (by simp), ((Fr.refl [] wr).drew).cell y5 (by simp), ((Fr.refl [] wr).drew).cell y6 (by simp), ((Fr.refl [] wr).drew).cell hc3 (by simp)⟩
        | (go_keep; done))
       (first
        | (go_at_call 7; refine (refNodes_any n p.tree _ (fun j => w2.heap.size ≤ j) _ ⟨pC, pc, rfl, hpt.fr0 frx⟩ (by omega)).mono ?_; rintro e wa ⟨rfl, hfa⟩; have hFa : Fr [] wr wa := (Fr.trans frx hfa))
        | (go_at_call 65; refine (choice_any g.length (some ⟨b3, o3, none⟩) pD c5 pd 0 p.slot.kinds p.slot.between (L.map dnI) _ hlm.out (hr7.fr0 frx) (hpk.fr0 frx) HKR.out).mono ?_; rw [HC.out]; rintro e wb ⟨rfl, hfb⟩; have hFa : Fr [] wr wb := (Fr.trans frx hfb)))
      obtain ⟨w8, hw8⟩ : ∃ w8, w8 = wb := ⟨_, rfl⟩
      have hF8 : Fr [] w3 w8 := by rw [hw8]; exact hf7.trans hFa
      have ho8 : w8.ownsRow w3.heap.size 3 1 (.slice A7 (prunIx L (spotsT g t slot0 1) k).length c7) (prunIx L (spotsT g t slot0 1) k).length ((prunIx L (spotsT g t slot0 1) k).map (.int .i64)) := by rw [hw8]; exact own_fr ho7 hFa (by simp)
      rw [← hw8]
      clear hw8 y0 y1 y2 y4 y5 y6 hc3
      go_wp2_with fail
      go_roundw
      case rel => exact ⟨k + 1, by omega, by omega, by go_num, by rw [hst.out]; exact ⟨A7, c7, rfl, ho8, hF8⟩⟩
      case measure => simp [intOf]; omega
     ·have hpf : prunAt L (spotsT g t slot0 1) k = true := by rw [hpa, hB.out, hlz]; rfl
      have hst := Lib.hid (prunIx_yes hpf)
      clear hpa hpf
      go_wp2_with fail
      go_region_held3 (fun w' => w'.cell? ⟨b6, off6 + k * 8 + 4, none⟩ = some (.int .u8 0) ∧ w'.cell? ⟨b6, off6 + k * 8, none⟩ = some (.int .i64 p.tree.kind) ∧ w'.cell? ⟨b6, off6 + k * 8 + 1, none⟩ = some (.string p.tree.text) ∧ w'.cell? ⟨b6, off6 + k * 8 + 2, none⟩ = some (.slice pC p.tree.slots.length pc) ∧ w'.cell? ⟨b6, off6 + k * 8 + 5, none⟩ = some (.slice pD p.slot.kinds.length pd) ∧ w'.cell? ⟨b6, off6 + k * 8 + 6, none⟩ = some (.string p.slot.between) ∧ w'.cell? ⟨b3, o3 + jn, none⟩ = some (.int .i64 z))
       (first
        | with_reducible exact ⟨(hFa).cell y4 (by simp), (hFa).cell y0 (by simp), (hFa).cell y1 (by simp), (hFa).cell y2 (by simp), (hFa).cell y5 (by simp), (hFa).cell y6 (by simp), (hFa).cell hc3 (by simp)⟩
        | with_reducible exact ⟨((Fr.refl [] wr).drew).cell y4 (by simp), ((Fr.refl [] wr).drew).cell y0 (by simp), ((Fr.refl [] wr).drew).cell y1 (by simp), ((Fr.refl [] wr).drew).cell y2 (by simp), ((Fr.refl [] wr).drew).cell y5 (by simp), ((Fr.refl [] wr).drew).cell y6 (by simp), ((Fr.refl [] wr).drew).cell hc3 (by simp)⟩
        | (go_keep; done))
       (first
        | (go_at_call 7; refine (refNodes_any n p.tree _ (fun j => w2.heap.size ≤ j) _ ⟨pC, pc, rfl, hpt.fr0 frx⟩ (by omega)).mono ?_; rintro e wa ⟨rfl, hfa⟩; have hFa : Fr [] wr wa := (Fr.trans frx hfa))
        | (go_at_call 65; refine (choice_any g.length (some ⟨b3, o3, none⟩) pD c5 pd 0 p.slot.kinds p.slot.between (L.map dnI) _ hlm.out (hr7.fr0 frx) (hpk.fr0 frx) HKR.out).mono ?_; rw [HC.out]; rintro e wb ⟨rfl, hfb⟩; have hFa : Fr [] wr wb := (Fr.trans frx hfb)))
      obtain ⟨w8, hw8⟩ : ∃ w8, w8 = wb := ⟨_, rfl⟩
      have hF8 : Fr [] w3 w8 := by rw [hw8]; exact hf7.trans hFa
      have ho8 : w8.ownsRow w3.heap.size 3 1 (.slice A7 (prunIx L (spotsT g t slot0 1) k).length c7) (prunIx L (spotsT g t slot0 1) k).length ((prunIx L (spotsT g t slot0 1) k).map (.int .i64)) := by rw [hw8]; exact own_fr ho7 hFa (by simp)
      rw [← hw8]
      clear hw8 y0 y1 y2 y4 y5 y6 hc3
      have hz8 := hF8.size
      generalize prunIx L (spotsT g t slot0 1) k = zs at *
      go_wp2_with (at_builtin; refine wpList_append_rd rfl (.tmp 54) (.tmp 56) _ rfl elemInts (.slice A7 zs.length c7) (zs.map (.int .i64)) rfl (ho8.alloc _) (some ⟨w8.heap.size, 0, none⟩) 1 [(k : Int)] (.int .i64) rfl (Rd.one w8 _ _ _) one_i64 (by simp; omega) (by simp; omega) ?_; intro A9 c9 w9 ho9 hg9 hat9)
      go_roundw
      case rel => exact ⟨k + 1, by omega, by omega, by go_num, by rw [hst.out]; have := GathN.snoc (zs := zs ++ [(k : Int)]) (hF8.alloc _) (ho8.alloc _) hg9 ho9 (by simp); simpa using this⟩
      case measure => simp [intOf]; omega
    ·have hd : (mv != 0) = true := by simpa using hmz
     have hpf : prunAt L (spotsT g t slot0 1) k = true := by rw [hpa, hB.out, hd]; rfl
     have hst := Lib.hid (prunIx_yes hpf)
     have hmz := Lib.hid hmz
     clear hpa hpf
     go_wp2_with fail
     go_quiet (fail)
     obtain ⟨w8, hw8⟩ : ∃ w8, w8 = wr.drewN nq := ⟨_, rfl⟩
     have hF8 : Fr [] w3 w8 := by rw [hw8]; exact hf7.drewN _
     have ho8 : w8.ownsRow w3.heap.size 3 1 (.slice A7 (prunIx L (spotsT g t slot0 1) k).length c7) (prunIx L (spotsT g t slot0 1) k).length ((prunIx L (spotsT g t slot0 1) k).map (.int .i64)) := by rw [hw8]; exact own_fr ho7 ((Fr.refl [] wr).drewN _) (by simp)
     rw [← hw8]
     clear hw8 y0 y1 y2 y4 y5 y6 hc3
     have hz8 := hF8.size
     generalize prunIx L (spotsT g t slot0 1) k = zs at *
     go_wp2_with (at_builtin; refine wpList_append_rd rfl (.tmp 54) (.tmp 56) _ rfl elemInts (.slice A7 zs.length c7) (zs.map (.int .i64)) rfl (ho8.alloc _) (some ⟨w8.heap.size, 0, none⟩) 1 [(k : Int)] (.int .i64) rfl (Rd.one w8 _ _ _) one_i64 (by simp; omega) (by simp; omega) ?_; intro A9 c9 w9 ho9 hg9 hat9)
     go_roundw
     case rel => exact ⟨k + 1, by omega, by omega, by go_num, by rw [hst.out]; have := GathN.snoc (zs := zs ++ [(k : Int)]) (hF8.alloc _) (ho8.alloc _) hg9 ho9 (by simp); simpa using this⟩
     case measure => simp [intOf]; omega
   ·have hkt : k = t.nodes := by omega
    subst hkt
    go_wp2
    go_ret2
    rw [hE.out, HSL.out]
    exact ⟨A7, c7, rfl, hF3.trans hf7, own_base ho7 hF3.size⟩
 ·have hE := Lib.hid (prunOf_err hez)
  have hd : (chkT g L t != 0) = true := by simpa using hez
  have hez := Lib.hid hez
  generalize chkT g L t = ev at *
  go_wp2
  go_ret2
  rw [hE.out]
  exact ⟨none, 0, rfl, hF1, World.ownsRow_nil _ _ _ 1⟩
end

/- pruned of the reference. -/
section
open Go.RowKit
theorem edX_step {g : List Ru} {dec : Dec} {s : Sl} {st : List T × Nat} {y : T} {l : List T} {N : Nat} (h : nodeE g dec y s st.2 = (l, N)) : edX g dec s st y = (st.1 ++ l, N) := by unfold edX; rw [h]
set_option maxRecDepth 20000 in
set_option maxHeartbeats 12800000 in
theorem refpruned_any (A B D : Option Addr) (c d da : Nat) (g : List Ru) (hro : RulesOk g) (L at_ : List Int) (hok : LOk g L) (hle : ∀ k : Nat, k < g.length → getI L k ≤ 1024) (nn : Nat) : ∀ (t : T) (AT : Option Addr) (cT : Nat) (S : Nat → Prop) (n : Nat) (w : World), RH S nn w AT cT t → RRu w A c g → Rd w (.int .i64) B d (L.map dnI) → Rd w (.int .i64) D da at_ → Val g t → n + t.nodes ≤ 100000 →
    Calls Tryz.prog 66 #[.agg #[.slice A g.length c], .slice B g.length d, .agg (tcells t AT cT), .int .i64 (n : Nat), .slice D at_.length da] w (RetTN (nn + 1024) w (prunR g L at_ t n) (n + t.nodes)) := by
  have hll : (L.map dnI).length = g.length := by rw [List.length_map]; exact hok.sz.1
  have HLE := Lib.hid hle
  clear hle
  induction nn with
  | zero => intro t AT cT S n w h; exact absurd h id
  | succ nn ih =>
    intro t AT cT S n w hR ha hL hat hval hn
    obtain ⟨r, hru, _, hlen, _, _, hsub⟩ := val_parts hval
    obtain ⟨kk, hkk, hgk0, hkl⟩ := ruleAt_some hru
    have hfew : t.slots.length ≤ 8 := by rw [hlen]; exact (hro.head r (List.mem_of_getElem? hgk0)).2.2
    have HSUB := Lib.hid hsub
    have HLEN := Lib.hid hlen
    have HKK := Lib.hid hkk
    have HKR0 := Lib.hid (hro.kinds r (List.mem_of_getElem? hgk0))
    have hsl := rule_slots (g := g) (t := t) hru
    have hP : Hid (prunR g L at_ t n = .mk t.kind t.text ((r.slots.zip t.slots).foldl (edP g (decP g L at_)) ([], n + 1)).1) := by show _ = _; unfold prunR; rw [hsl]
    have hS2 : Hid (((r.slots.zip t.slots).foldl (edP g (decP g L at_)) ([], n + 1)).2 = n + t.nodes) := by
      show _ = _
      have h := ed_rows_snd (g := g) (dec := decP g L at_) n r.slots t.slots ([], n + 1) 1 hlen.symm (fun q hq x hx s n => nodeE_snd x (hsub q hq x hx) s n) rfl
      rw [h, T.nodes_eq]
    have HTOT := Lib.hid (fun i => ed_le (decP g L at_) r.slots t.slots (n + 1) i _ hS2.out)
    obtain ⟨b, off, r', A1, c1, rfl, hr, e0, e1, e2, e3, hSl⟩ := ha.at_ hkl
    obtain rfl : r = r' := Option.some.inj (hgk0.symm.trans hr.out)
    have hsb := hSl.bound
    have hgbd := ha.bound
    clear hru hgk0 hsub hsl hlen hkk
    have hR : RowsB S (fun A c x => RH S nn w A c x) w AT cT t.slots := hR
    have hl1 := hR.bound
    obtain ⟨W, hW⟩ : ∃ W, W = ((w.alloc (.cells #[.slice (some ⟨b, off, none⟩) g.length c] 24)).alloc (.cells (tcells t AT cT) 27)).alloc (.cells #[.int .i64 0, .string emptyS, .slice none 0 0] 27) := ⟨_, rfl⟩
    have hF : Fr [] w W := by rw [hW]; exact frx
    have hBg0 : Blk W w.heap.size 24 #[.slice (some ⟨b, off, none⟩) g.length c] := by rw [hW]; exact ((Blk.new w _ _ _ rfl).alloc _).alloc _
    have hB1 : Blk W (w.heap.size + 1) 27 (tcells t AT cT) := by rw [hW]; exact (Blk.new _ _ _ _ (by simp)).alloc _
    have hB2 : Blk W (w.heap.size + 1 + 1) 27 #[.int .i64 0, .string emptyS, .slice none 0 0] := by rw [hW]; exact Blk.new _ _ _ _ (by simp)
    have hWz : Hid (W.heap.size = w.heap.size + 3) := by show _ = _; rw [hW]; simp
    have p0 : W.cell? ⟨w.heap.size + 1, 0, none⟩ = some (.int .i64 t.kind) := hB1.cell 0 rfl
    have p1 : W.cell? ⟨w.heap.size + 1, 1, none⟩ = some (.string t.text) := hB1.cell 1 rfl
    have p2 : W.cell? ⟨w.heap.size + 1, 2, none⟩ = some (.slice AT t.slots.length cT) := hB1.cell 2 rfl
    have hZ : Blk (W.alloc (.cells #[.int .i64 0, .string emptyS, .slice none 0 0] 27)) W.heap.size 27 #[.int .i64 0, .string emptyS, .slice none 0 0] := Blk.new W _ _ _ rfl
    have HW := Lib.hid hW.symm
    clear hW
    go_enter Tryz.func66, Tryz.ntmps66
    go_wp2_with fail
    rw [HW.out]
    go_region_held3 (fun w' => w'.cell? ⟨w.heap.size + 1, 0, none⟩ = some (.int .i64 t.kind) ∧ w'.cell? ⟨w.heap.size + 1, 1, none⟩ = some (.string t.text) ∧ w'.cell? ⟨w.heap.size + 1, 2, none⟩ = some (.slice AT t.slots.length cT))
      (first
        | with_reducible exact ⟨(fr_three hFa (.inr (Nat.le_refl _)) _ _ _).cell p0 (by simp), (fr_three hFa (.inr (Nat.le_refl _)) _ _ _).cell p1 (by simp), (fr_three hFa (.inr (Nat.le_refl _)) _ _ _).cell p2 (by simp)⟩
        | with_reducible exact ⟨hFa.cell p0 (by simp), hFa.cell p1 (by simp), hFa.cell p2 (by simp)⟩
        | with_reducible exact ⟨(hFa.alloc _).cell p0 (by simp), (hFa.alloc _).cell p1 (by simp), (hFa.alloc _).cell p2 (by simp)⟩
        | (go_keep; done))
      (first
        | (refine upon_makeN elemRows rfl t.slots.length (by omega) ?_; intro w4 hown4 hg4; have hFa : Fr [] W w4 := (Fr.grown frx hg4 (by simp)); have hza := hFa.size; (try (have hBz := Blk.grown (Blk.drew hZ) hg4 (by simp); have u0 := hBz.cell 0 rfl; have u1 := hBz.cell 1 rfl; have u2 := hBz.cell 2 rfl; have v0 := hBz.frozen 0; have v1 := hBz.frozen 1; have v2 := hBz.frozen 2))))
    all_goals
      have hwz := hWz.out
      first
        | (obtain ⟨W5, hW5⟩ : ∃ W5, W5 = ((w4.setCell ⟨W.heap.size, 0, none⟩ (.int .i64 t.kind)).setCell ⟨W.heap.size, 1, none⟩ (.string t.text)).setCell ⟨W.heap.size, 2, none⟩ (.slice (some ⟨W.heap.size + 1, 0, none⟩) t.slots.length t.slots.length) := ⟨_, rfl⟩
           rw [← hW5]
           have hF5 : Fr [] W W5 := by rw [hW5]; exact fr_three hFa (.inr (Nat.le_refl _)) _ _ _
           have hBo : Blk W5 W.heap.size 27 #[.int .i64 t.kind, .string t.text, .slice (some ⟨W.heap.size + 1, 0, none⟩) t.slots.length t.slots.length] := by rw [hW5]; exact hBz.three _ _ _
           have hzz : (W.alloc (.cells #[.int .i64 0, .string emptyS, .slice none 0 0] 27)).drew.heap.size = W.heap.size + 1 := by simp
           have hown4 : w4.ownsRow (W.heap.size + 1) 59 1 (.slice (some ⟨W.heap.size + 1, 0, none⟩) t.slots.length t.slots.length) t.slots.length (List.replicate t.slots.length (.slice none 0 0)) := by rw [← hzz]; exact hown4
           have hG5 : GR (nn + 1024) (W.heap.size + 1) W5 (some ⟨W.heap.size + 1, 0, none⟩) t.slots.length (mkRows t.slots.length []) := by
             rw [mkRows_nil, hW5]
             exact (GR.made hown4).fr (fr_three (S := [W.heap.size]) (Fr.refl _ _) (.inl (by simp)) _ _ _) (fun k hk => by have hk : k = W.heap.size := (by simpa using hk); omega)
           have hgb1 : w.heap.size + 3 ≤ W.heap.size + 1 := by omega
           have hob1 : w.heap.size + 3 ≤ W.heap.size := by omega
           have hgo : W.heap.size + 1 ≠ W.heap.size := by omega
           clear hW5 hown4 hg4 hZ hza hFa hwz hzz u0 u1 u2 v0 v1 v2 hBz
           generalize W.heap.size + 1 = gb at *
           generalize W.heap.size = ob at *)
        | (obtain ⟨W5, hW5⟩ : ∃ W5, W5 = w4.alloc (.cells #[.int .i64 t.kind, .string t.text, .slice (some ⟨W.heap.size, 0, none⟩) t.slots.length t.slots.length] 27) := ⟨_, rfl⟩
           rw [← hW5]
           have hF5 : Fr [] W W5 := by rw [hW5]; exact hFa.alloc _
           have hBo : Blk W5 w4.heap.size 27 #[.int .i64 t.kind, .string t.text, .slice (some ⟨W.heap.size, 0, none⟩) t.slots.length t.slots.length] := by rw [hW5]; exact Blk.new _ _ _ _ rfl
           have hG5 : GR (nn + 1024) W.heap.size W5 (some ⟨W.heap.size, 0, none⟩) t.slots.length (mkRows t.slots.length []) := by
             rw [mkRows_nil, hW5]
             exact (GR.made hown4).fr0 ((Fr.refl _ _).alloc _)
           have hgb1 : w.heap.size + 3 ≤ W.heap.size := by omega
           have hob1 : w.heap.size + 3 ≤ w4.heap.size := by omega
           have hgo : W.heap.size ≠ w4.heap.size := by have h : W.heap.size < w4.heap.size := (hown4.lt _ rfl).2; omega
           clear hW5 hown4 hg4 hZ hza hFa hwz
           generalize W.heap.size = gb at *
           generalize w4.heap.size = ob at *)
      have hFw := hF.trans hF5
      have hB15 := hB1.fr hF5 (by simp)
      have hBg5 := hBg0.fr hF5 (by simp)
      have hB25 := hB2.fr hF5 (by simp)
      clear hB1 hB2 hBg0 hF5 hF p0 p1 p2
      go_wp2_with fail
      go_loopw [13, 14] (fun v i wr => ∃ (k : Nat) (G : List RowH), k ≤ t.slots.length ∧ i = .int .i64 k ∧ v = .int .i64 (((((r.slots.zip t.slots).take k).foldl (edP g (decP g L at_)) ([], n + 1)).2 : Nat) : Int) ∧ Hid (G.map (·.1) = (((r.slots.zip t.slots).take k).foldl (edP g (decP g L at_)) ([], n + 1)).1) ∧ Hid (G.length = k) ∧ GR (nn + 1024) gb wr (some ⟨gb, 0, none⟩) t.slots.length (mkRows t.slots.length G) ∧ Blk wr w.heap.size 24 #[.slice (some ⟨b, off, none⟩) g.length c] ∧
        Blk wr (w.heap.size + 1) 27 (tcells t AT cT) ∧ Blk wr (w.heap.size + 1 + 1) 27 #[.int .i64 0, .string emptyS, .slice none 0 0] ∧ Blk wr ob 27 #[.int .i64 t.kind, .string t.text, .slice (some ⟨gb, 0, none⟩) t.slots.length t.slots.length] ∧ Fr [] w wr) (fun _ i _ => t.slots.length - (intOf i).toNat)
      case atStart => exact ⟨0, [], Nat.zero_le _, rfl, by go_num, rfl, rfl, hG5, hBg5, hB15, hB25, hBo, hFw⟩
      case round =>
        clear hG5 hBg5 hB15 hB25 hBo hFw
        obtain ⟨k, G, hk, rfl, rfl, hGm, hGl, hGR, hBg1, hB1, hB2, hBo, hf⟩ := hrel
        have tb0 : wr.cell? ⟨w.heap.size + 1, 0, none⟩ = some (.int .i64 (kk : Int)) := by rw [← HKK.out]; exact hB1.cell 0 rfl
        have tb : wr.cell? ⟨w.heap.size + 1, 2, none⟩ = some (.slice AT t.slots.length cT) := hB1.cell 2 rfl
        have gb0 : wr.cell? ⟨w.heap.size, 0, none⟩ = some (.slice (some ⟨b, off, none⟩) g.length c) := hBg1.cell 0 rfl
        have o0 : wr.cell? ⟨ob, 0, none⟩ = some (.int .i64 t.kind) := hBo.cell 0 rfl
        have o1 : wr.cell? ⟨ob, 1, none⟩ = some (.string t.text) := hBo.cell 1 rfl
        have o2 : wr.cell? ⟨ob, 2, none⟩ = some (.slice (some ⟨gb, 0, none⟩) t.slots.length t.slots.length) := hBo.cell 2 rfl
        have hk1 := HTOT.out k
        by_cases hlt : k < t.slots.length
        · obtain ⟨b4, off4, q, A6, c6, rfl, hq, hc, hRow, hlq⟩ := hR.at_ (i := k) hlt
          obtain ⟨b2, off2, s, A4, c4, rfl, hs, hm, s0, s1, hks, s2⟩ := hSl.at_ (k := k) (by rw [← HLEN.out]; exact hlt)
          have hb4 : b4 < w.heap.size := World.block_lt_of_cell? w _ hc
          have hb2 : b2 < w.heap.size := World.block_lt_of_cell? w _ s0
          have hbl : b < w.heap.size := World.block_lt_of_cell? w _ e3
          have hc := hf.cell hc (by simp)
          have hqn := row_few hq
          have HQ := Lib.hid (HSUB.out q (List.mem_of_getElem? hq.out))
          have hnk := Lib.hid (fold_take (f := edP g (decP g L at_)) (b := ([], n + 1)) (show Hid ((r.slots.zip t.slots)[k]? = some (s, q)) from zip_at hs hq))
          have hko := HKR0.out s (List.mem_of_getElem? hs.out)
          have hk3 := HTOT.out (k + 1)
          rw [hnk.out] at hk3
          have hkr : k < r.slots.length := by rw [← HLEN.out]; exact hlt
          generalize ((r.slots.zip t.slots).take k).foldl (edP g (decP g L at_)) ([], n + 1) = st at *
          have HM : Hid (∀ m, ((q.take m).foldl (edX g (decP g L at_) s) ([], st.2)).2 ≤ n + t.nodes) := fun m =>
            Nat.le_trans (fold_take_le (m := fun st : List T × Nat => st.2) (fun b x => edX_mono (g := g) (dec := decP g L at_) s b x) q ([], st.2) m) hk3
          have HKO := Lib.hid hko
          clear hko
          obtain ⟨V, rfl⟩ : ∃ V, V = wr := ⟨wr, rfl⟩
          have hgbl : Blk V gb 59 ((mkRows t.slots.length G).map encRow).toArray := hGR.blk (mkRows_len (by rw [hGl.out]; exact hk)) (by omega)
          have hgV : gb < V.heap.size := hgbl.lt
          have hoV : ob < V.heap.size := hBo.lt
          have hwV : w.heap.size < V.heap.size := hBg1.lt
          have hml : ((mkRows t.slots.length G).map encRow).length = t.slots.length := by rw [List.length_map]; exact mkRows_len (by rw [hGl.out]; exact hk)
          have hb0 : Blk V gb 59 (((mkRows t.slots.length G).map encRow).set k (.slice none 0 0)).toArray := by
            rw [set_same (by rw [List.getElem?_map, ← hGl.out, mkRows_at (by rw [hGl.out]; exact hlt)]; rfl)]
            exact hgbl
          have ne0 : ¬ w.heap.size = gb := by omega
          have ne1 : ¬ w.heap.size + 1 = gb := by omega
          have ne2 : ¬ ob = gb := fun h => hgo h.symm
          have ne3 : ¬ b4 = gb := by omega
          have hgo' := Lib.hid hgo
          have hml := Lib.hid hml
          clear hgo
          go_wp2_with fail
          go_loopw [13, 15] (fun v j wr => ∃ (m : Nat) (A9 : Option Addr) (c9 : Nat) (G2 : List TreeH), m ≤ q.length ∧ j = .int .i64 m ∧ v = .int .i64 ((((q.take m).foldl (edX g (decP g L at_) s) ([], st.2)).2 : Nat) : Int) ∧ Hid (G2.map (·.1) = ((q.take m).foldl (edX g (decP g L at_) s) ([], st.2)).1) ∧ GT (nn + 1024) V.heap.size wr A9 c9 G2 ∧ Blk wr gb 59 (((mkRows t.slots.length G).map encRow).set k (.slice A9 G2.length c9)).toArray ∧ Fr [gb] V wr) (fun _ j _ => q.length - (intOf j).toNat)
          case atStart => exact ⟨0, none, 0, [], Nat.zero_le _, rfl, rfl, rfl, GT.nil_ _ _ _, hb0, Fr.refl _ _⟩
          case round =>
            obtain ⟨m, A9, c9, G2, hm', rfl, rfl, hG2m, hGT, hBg, hfm⟩ := hrel
            have hzm := hfm.size
            have tbm : wr.cell? ⟨w.heap.size + 1, 2, none⟩ = some (.slice (some ⟨b4, off4, none⟩) t.slots.length cT) := hfm.cell tb (by simp; exact ne1)
            have tbm0 := hfm.cell tb0 (by simp; exact ne1)
            have gbm := hfm.cell gb0 (by simp; exact ne0)
            have hcm := hfm.cell hc (by simp; exact ne3)
            have hfw : Fr [] w wr := hf.trans2 hfm fun j hj => .inr (by simp at hj; omega)
            by_cases hlt2 : m < q.length
            · obtain ⟨b6, off6, y, A8, c8, rfl, hy, f0, f1, f2, hX⟩ := hRow.at_ hlt2
              have f0 := hfw.cell f0 (by simp)
              have f1 := hfw.cell f1 (by simp)
              have f2 := hfw.cell f2 (by simp)
              have hyv := Lib.hid (HQ.out y (List.mem_of_getElem? hy.out))
              have hnx := Lib.hid (fold_take (f := edX g (decP g L at_) s) (b := ([], st.2)) hy)
              have hb1 := HM.out (m + 1)
              rw [hnx.out] at hb1
              have hb1 : (nodeE g (decP g L at_) y s ((q.take m).foldl (edX g (decP g L at_) s) ([], st.2)).2).2 ≤ n + t.nodes := hb1
              rw [nodeE_snd y hyv.out] at hb1
              have hG2l : G2.length ≤ m := by
                have h1 := congrArg List.length hG2m.out
                rw [List.length_map] at h1
                have h2 := ed_row_len (g := g) (dec := decP g L at_) (fun n s l h => decP_one n s l h) s (q.take m) ([], st.2)
                rw [List.length_take] at h2
                have h3 : ([] : List T).length = 0 := rfl
                rw [h3] at h2
                omega
              have hbig : (G2.length + 1) * 48 ≤ 140737488355328 := by omega
              generalize (q.take m).foldl (edX g (decP g L at_) s) ([], st.2) = st3 at *
              have hb2 : st3.2 + y.nodes ≤ 100000 := by omega
              have hgk : (((mkRows t.slots.length G).map encRow).set k (.slice A9 G2.length c9)).toArray[k]? = some (.slice A9 G2.length c9) := set_at (by rw [hml.out]; exact hlt)
              obtain ⟨W7, hW7⟩ : ∃ W7, W7 = wr.alloc (.cells #[.int .i64 y.kind, .string y.text, .slice A8 y.slots.length c8] 27) := ⟨_, rfl⟩
              have hf7 : Fr [] wr W7 := by rw [hW7]; exact frx
              have hBy7 : Blk W7 wr.heap.size 27 #[.int .i64 y.kind, .string y.text, .slice A8 y.slots.length c8] := by rw [hW7]; exact Blk.new _ _ _ _ rfl
              have HW7 := Lib.hid hW7.symm
              have y70 : W7.cell? ⟨wr.heap.size, 0, none⟩ = some (.int .i64 y.kind) := hBy7.cell 0 rfl
              have y71 : W7.cell? ⟨wr.heap.size, 1, none⟩ = some (.string y.text) := hBy7.cell 1 rfl
              have y72 : W7.cell? ⟨wr.heap.size, 2, none⟩ = some (.slice A8 y.slots.length c8) := hBy7.cell 2 rfl
              have gb7 := hf7.cell gbm (by simp)
              have hfw7 := hfw.trans hf7
              clear hW7
              rcases hin : decide ((st3.2 : Int) ∈ at_) with _ | _
              · have hnot : (st3.2 : Int) ∉ at_ := by simpa using hin
                obtain ⟨Y, hY⟩ : ∃ Y, prunR g L at_ y st3.2 = Y := ⟨_, rfl⟩
                have hrx : Hid (edX g (decP g L at_) s st3 y = (st3.1 ++ [Y], st3.2 + y.nodes)) := by show _ = _; rw [← hY]; exact edX_step (pr_no hyv.out hnot)
                have HY := Lib.hid hY
                have HIN := Lib.hid hin
                clear hY hin hnot
                go_wp2_with fail
                rw [HW7.out]
                refine (Has_any D da at_ (st3.2 : Nat) _ (hat.fr0 hfw7)).mono ?_
                rw [HIN.out]
                rintro e w8 ⟨rfl, n8, rfl⟩
                go_wp2_with fail
                refine (ih y A8 c8 S st3.2 _ (hX.fr0 (Fr.trans hfw7 frx)) (ha.fr0 (Fr.trans hfw7 frx)) (hL.fr0 (Fr.trans hfw7 frx)) (hat.fr0 (Fr.trans hfw7 frx)) hyv.out hb2).mono ?_
                rw [HY.out]
                rintro e wb ⟨A10, c10, rfl, hfb, hR10⟩
                have hfb : Fr [] W7 wb := Fr.trans frx hfb
                have hz7 := hf7.size
                have hzb := hfb.size
                have hRYb := hR10.sub (S' := fun j => j < wr.heap.size) fun j _ hj => Nat.lt_of_lt_of_le hj hz7
                obtain ⟨W2, hW2⟩ : ∃ W2, W2 = wb.alloc (.cells #[.int .i64 Y.kind, .string Y.text, .slice A10 Y.slots.length c10] 27) := ⟨_, rfl⟩
                have hf2 : Fr [] wr W2 := by rw [hW2]; exact (hf7.trans hfb).alloc _
                have hBy : Blk W2 wb.heap.size 27 #[.int .i64 Y.kind, .string Y.text, .slice A10 Y.slots.length c10] := by rw [hW2]; exact Blk.new _ _ _ _ rfl
                have hRY : RH (fun j => j < wr.heap.size) (nn + 1024) W2 A10 c10 Y := by rw [hW2]; exact hRYb.fr0 ((Fr.refl _ _).alloc _)
                have HW2 := Lib.hid hW2.symm
                obtain ⟨yb, hyb1⟩ : ∃ yb, yb = wb.heap.size := ⟨_, rfl⟩
                have hyb : wr.heap.size ≤ yb := by omega
                rw [← hyb1] at hBy
                have HYB := Lib.hid hyb1.symm
                clear hW2 hR10 hRYb hyb1
                have hV2 : Fr [gb] V W2 := hfm.trans (hf2.mono (by simp))
                have hGT2 := hGT.fr0 hf2
                have hG2 := hBg.fr hf2 (by simp)
                have hz2 := hf2.size
                obtain ⟨Zs, hZs⟩ : ∃ Zs, Zs = gb :: (Value.slice A9 G2.length c9).ownBlock.toList := ⟨_, rfl⟩
                have hown9 : ∀ j, (Value.slice A9 G2.length c9).ownBlock = some j → V.heap.size ≤ j ∧ j < wr.heap.size := fun j hj => by
                  rcases A9 with _ | a
                  · cases hj
                  · have h := own_block hGT.own rfl
                    have hj : a.block = j := by simpa [Value.ownBlock] using hj
                    omega
                have hno : ob ∉ Zs := fun h => by
                  rw [hZs] at h
                  rcases List.mem_cons.1 h with h | h
                  · exact ne2 h
                  · have := hown9 ob (by simpa using h)
                    omega
                have hng : w.heap.size ∉ Zs := fun h => by
                  rw [hZs] at h
                  rcases List.mem_cons.1 h with h | h
                  · exact ne0 h
                  · have := hown9 w.heap.size (by simpa using h)
                    omega
                have hny : yb ∉ Zs := fun h => by
                  rw [hZs] at h
                  rcases List.mem_cons.1 h with h | h
                  · omega
                  · have := hown9 yb (by simpa using h)
                    omega
                have hrow : ∀ j, (Value.slice A9 G2.length c9).ownBlock = some j → j ∈ Zs ∨ W2.heap.size ≤ j := fun j hj => .inl (by rw [hZs]; simp [hj])
                have hgz : gb ∈ Zs := by rw [hZs]; simp
                have o22 : W2.cell? ⟨ob, 2, none⟩ = some (.slice (some ⟨gb, 0, none⟩) t.slots.length t.slots.length) := hV2.cell o2 (by simp; exact ne2)
                have g0 : W2.cell? ⟨gb, k, none⟩ = some (.slice A9 G2.length c9) := hG2.cell k hgk
                have hCW := Fr.refl Zs W2
                have hC0 := hCW.drew
                have hown9 := Lib.hid hown9
                clear hZs
                have y0 : W2.cell? ⟨yb, 0, none⟩ = some (.int .i64 Y.kind) := hBy.cell 0 rfl
                have y1 : W2.cell? ⟨yb, 1, none⟩ = some (.string Y.text) := hBy.cell 1 rfl
                have y2 : W2.cell? ⟨yb, 2, none⟩ = some (.slice A10 Y.slots.length c10) := hBy.cell 2 rfl
                go_wp2_with fail
                rw [HW2.out, HYB.out]
                refine wp_region_noPanic ?_
                refine wp_region_held_drew (S := (fun w' => w'.cell? ⟨ob, 2, none⟩ = some (.slice (some ⟨gb, 0, none⟩) t.slots.length t.slots.length) ∧ w'.cell? ⟨yb, 0, none⟩ = some (.int .i64 Y.kind) ∧ w'.cell? ⟨yb, 1, none⟩ = some (.string Y.text) ∧ w'.cell? ⟨yb, 2, none⟩ = some (.slice A10 Y.slots.length c10))) (by kernel_rfl) ?_ (fun hHeld => ?_)
                · with_reducible exact ⟨(hC0).cell o22 hno, (hC0).cell y0 hny, (hC0).cell y1 hny, (hC0).cell y2 hny⟩
                refine wpAnyH_take (i := 0) (v := ?_) rfl (by kernel_rfl) (by kernel_rfl) (by kernel_rfl) (fun _ _ _ h => h) (Or.inl ⟨by rfl, fun w hSw => ?_⟩) (by assumption) ?_
                rotate_left 1
                · (try dsimp only at hSw); go_simp; try with_reducible rfl
                try simp only [Act.put, List.setIfInBounds_toArray, List.set_cons_zero, List.set_cons_succ]
                refine wpAnyH_take (i := 1) (v := ?_) rfl (by kernel_rfl) (by kernel_rfl) (by kernel_rfl) (fun _ _ _ h => h) (Or.inl ⟨by rfl, fun w hSw => ?_⟩) (by assumption) ?_
                rotate_left 1
                · (try dsimp only at hSw); go_simp; try with_reducible rfl
                try simp only [Act.put, List.setIfInBounds_toArray, List.set_cons_zero, List.set_cons_succ]
                refine wpAnyH_take (i := 2) (v := ?_) rfl (by kernel_rfl) (by kernel_rfl) (by kernel_rfl) (fun _ _ _ h => h) (Or.inl ⟨by rfl, fun w hSw => ?_⟩) (by assumption) ?_
                rotate_left 1
                · (try dsimp only at hSw); go_simp; try with_reducible rfl
                try simp only [Act.put, List.setIfInBounds_toArray, List.set_cons_zero, List.set_cons_succ]
                refine wpAnyH_take (i := 3) (v := ?_) rfl (by kernel_rfl) (by kernel_rfl) (by kernel_rfl) (fun _ _ _ h => h) (Or.inl ⟨by rfl, fun w hSw => ?_⟩) (by assumption) ?_
                rotate_left 1
                · (try dsimp only at hSw); go_simp; try with_reducible rfl
                try simp only [Act.put, List.setIfInBounds_toArray, List.set_cons_zero, List.set_cons_succ]
                refine wpAnyH_take (i := 4) (v := ?_) rfl (by kernel_rfl) (by kernel_rfl) (by kernel_rfl) (fun _ _ _ h => h) (Or.inl ⟨by rfl, fun w hSw => ?_⟩) (by assumption) ?_
                rotate_left 1
                · (try dsimp only at hSw); go_simp; try with_reducible rfl
                try simp only [Act.put, List.setIfInBounds_toArray, List.set_cons_zero, List.set_cons_succ]
                refine wpAnyH_take (i := 5) (v := ?_) rfl (by kernel_rfl) (by kernel_rfl) (by kernel_rfl) (fun _ _ _ h => h) (Or.inl ⟨by rfl, fun w hSw => ?_⟩) (by assumption) ?_
                rotate_left 1
                · (try dsimp only at hSw); go_simp; try with_reducible rfl
                try simp only [Act.put, List.setIfInBounds_toArray, List.set_cons_zero, List.set_cons_succ]
                refine wpAnyH_take (i := 6) (v := ?_) rfl (by kernel_rfl) (by kernel_rfl) (by kernel_rfl) (fun _ _ _ h => h) (Or.inl ⟨by rfl, fun w hSw => ?_⟩) (by assumption) ?_
                rotate_left 1
                · (try dsimp only at hSw); go_simp; try with_reducible rfl
                try simp only [Act.put, List.setIfInBounds_toArray, List.set_cons_zero, List.set_cons_succ]
                refine wpAnyH_take (i := 8) (v := ?_) rfl (by kernel_rfl) (by kernel_rfl) (by kernel_rfl) (fun _ _ _ h => h) (Or.inl ⟨by rfl, fun w hSw => ?_⟩) (by assumption) ?_
                rotate_left 1
                · (try dsimp only at hSw); go_simp; try with_reducible rfl
                try simp only [Act.put, List.setIfInBounds_toArray, List.set_cons_zero, List.set_cons_succ]
                refine wpAnyH_ready (rs := [7, 9]) (by kernel_rfl) (by simp) ?_
                refine AllReadyH.cons rfl (fun K hK => ?_) (AllReadyH.cons rfl (fun K hK => ?_) AllReadyH.nil)
                · go_simp
                  refine hK.out _ _ (by with_reducible exact ⟨(hC0).cell o22 hno, (hC0).cell y0 hny, (hC0).cell y1 hny, (hC0).cell y2 hny⟩) (fun hHeld2 => ?_)
                  clear hK K hHeld
                  have hHeld := hHeld2
                  clear hHeld2
                  try simp only [Act.put, List.setIfInBounds_toArray, List.set_cons_zero, List.set_cons_succ]
                  refine wpAnyH_ready (rs := [9]) (by kernel_rfl) (by simp) ?_
                  refine AllReadyH.cons rfl (fun K hK => ?_) AllReadyH.nil
                  go_simp
                  have hC := (hCW.alloc (.cells #[.int .i64 Y.kind, .string Y.text, .slice A10 Y.slots.length c10] 27)).drew
                  have g0 : (W2.alloc (.cells #[.int .i64 Y.kind, .string Y.text, .slice A10 Y.slots.length c10] 27)).cell? ⟨gb, k, none⟩ = some (.slice A9 G2.length c9) := (hG2.alloc _).cell k hgk
                  refine hK.out _ _ (by with_reducible exact ⟨(hC).cell o22 hno, (hC).cell y0 hny, (hC).cell y1 hny, (hC).cell y2 hny⟩) (fun hHeld2 => ?_)
                  clear hK K hHeld
                  have hHeld := hHeld2
                  clear hHeld2
                  try simp only [Act.put, List.setIfInBounds_toArray, List.set_cons_zero, List.set_cons_succ]
                  refine wpAnyH_ready (rs := [10]) (by kernel_rfl) (by simp) ?_
                  refine AllReadyH.cons rfl (fun K hK => ?_) AllReadyH.nil
                  have hGa := hGT2.fr0 (((Fr.refl [] _).alloc (.cells #[.int .i64 Y.kind, .string Y.text, .slice A10 Y.slots.length c10] 27)).drew)
                  have hcl : Cells ((W2.alloc (.cells #[.int .i64 Y.kind, .string Y.text, .slice A10 Y.slots.length c10] 27)).drew) (some ⟨W2.heap.size, 0, none⟩) [.int .i64 Y.kind, .string Y.text, .slice A10 Y.slots.length c10] := (Cells.lit (w := W2) (ty := 27) (ys := [.int .i64 Y.kind, .string Y.text, .slice A10 Y.slots.length c10]) (g := W2.heap.size) rfl).fr0 ((Fr.refl _ _).drew)
                  refine step_append_g rfl (.tmp 76) (.tmp 78) _ rfl elemTrees (.slice A9 G2.length c9) (G2.flatMap encT) rfl hGa.own (some ⟨W2.heap.size, 0, none⟩) 1 1 [.int .i64 Y.kind, .string Y.text, .slice A10 Y.slots.length c10] rfl hcl rfl (Nat.le_refl _) (by simp; exact ⟨rfl, rfl, rfl⟩) hbig (by simp; omega) ?_
                  intro A11 c11 w11 ho11 hg11 hat11
                  have hC := hC.grown hg11 hrow
                  have hCV := Fr.app (((hV2).alloc (.cells #[.int .i64 Y.kind, .string Y.text, .slice A10 Y.slots.length c10] 27)).drew) hGa.own (Nat.le_refl _) hg11
                  have hGb1 := ((hG2.alloc (.cells #[.int .i64 Y.kind, .string Y.text, .slice A10 Y.slots.length c10] 27)).drew).grown hg11 (hGT.ne hgV)
                  have g0 := hGb1.cell k hgk
                  have g1 := hGb1.frozen k
                  refine hK.out _ _ (by with_reducible exact ⟨(hC).cell o22 hno, (hC).cell y0 hny, (hC).cell y1 hny, (hC).cell y2 hny⟩) (fun hHeld2 => ?_)
                  clear hK K hHeld
                  have hHeld := hHeld2
                  clear hHeld2
                  try simp only [Act.put, List.setIfInBounds_toArray, List.set_cons_zero, List.set_cons_succ]
                  refine wpAnyH_take (i := 11) (v := ?_) rfl (by kernel_rfl) (by kernel_rfl) (by kernel_rfl) (fun _ _ _ h => h) (Or.inl ⟨by rfl, fun w hSw => ?_⟩) (by assumption) ?_
                  rotate_left 1
                  · (try dsimp only at hSw); go_simp; try with_reducible rfl
                  try simp only [Act.put, List.setIfInBounds_toArray, List.set_cons_zero, List.set_cons_succ]
                  refine wpAnyH_ready (rs := [12]) (by kernel_rfl) (by simp) ?_
                  refine AllReadyH.cons rfl (fun K hK => ?_) AllReadyH.nil
                  go_simp
                  have hC := hC.setCell (p := ⟨gb, k, none⟩) (.inl hgz) (.slice A11 (G2.length + 1) c11)
                  have hCV := hCV.setCell (p := ⟨gb, k, none⟩) (.inl (by simp)) (.slice A11 (G2.length + 1) c11)
                  refine hK.out _ _ (by with_reducible exact ⟨(hC).cell o22 hno, (hC).cell y0 hny, (hC).cell y1 hny, (hC).cell y2 hny⟩) (fun hHeld2 => ?_)
                  clear hK K hHeld
                  have hHeld := hHeld2
                  clear hHeld2
                  try simp only [Act.put, List.setIfInBounds_toArray, List.set_cons_zero, List.set_cons_succ]
                  refine wpAnyH_done (by kernel_rfl) ?_ _
                  refine NoPanic.normal ?_
                  have hGc := (hGa.app (G2 := [((Y, A10, c10) : TreeH)]) (m := 1) (fun p hp => by
                    obtain rfl : p = ((Y, A10, c10) : TreeH) := by simpa using hp
                    exact (RH.sub hRY fun j _ hj => hGT.bad_lt (by omega) j hj).fr0 (((Fr.refl _ _).alloc _).drew)) rfl rfl hg11 hat11 ho11).fr ((Fr.refl [gb] w11).setCell (p := ⟨gb, k, none⟩) (.inl (by simp)) (.slice A11 (G2.length + 1) c11)) (by simp; exact hgV)
                  have hBn := hGb1.set_ k (.slice A11 (G2.length + 1) c11)
                  go_wp2_with fail
                  go_roundw
                  case rel =>
                    refine ⟨m + 1, A11, c11, G2 ++ [((Y, A10, c10) : TreeH)], by omega, by go_num, by rw [hnx.out, hrx.out]; exact congrArg (Value.int .i64) (by show (st3.2 : Int) + (y.nodes : Int) = ((st3.2 + y.nodes : Nat) : Int); omega), (show _ = _ by rw [List.map_append, hG2m.out, hnx.out, hrx.out]; rfl), hGc, ?_, hCV⟩
                    rw [List.setIfInBounds_toArray, List.set_set] at hBn
                    rw [List.length_append]
                    exact hBn
                  case measure => simp [intOf]; omega
                · go_simp
                  have hC := (hCW.alloc (.cells #[.int .i64 Y.kind, .string Y.text, .slice A10 Y.slots.length c10] 27)).drew
                  have g0 : (W2.alloc (.cells #[.int .i64 Y.kind, .string Y.text, .slice A10 Y.slots.length c10] 27)).cell? ⟨gb, k, none⟩ = some (.slice A9 G2.length c9) := (hG2.alloc _).cell k hgk
                  refine hK.out _ _ (by with_reducible exact ⟨(hC).cell o22 hno, (hC).cell y0 hny, (hC).cell y1 hny, (hC).cell y2 hny⟩) (fun hHeld2 => ?_)
                  clear hK K hHeld
                  have hHeld := hHeld2
                  clear hHeld2
                  try simp only [Act.put, List.setIfInBounds_toArray, List.set_cons_zero, List.set_cons_succ]
                  refine wpAnyH_ready (rs := [7]) (by kernel_rfl) (by simp) ?_
                  refine AllReadyH.cons rfl (fun K hK => ?_) AllReadyH.nil
                  go_simp
                  refine hK.out _ _ (by with_reducible exact ⟨(hC).cell o22 hno, (hC).cell y0 hny, (hC).cell y1 hny, (hC).cell y2 hny⟩) (fun hHeld2 => ?_)
                  clear hK K hHeld
                  have hHeld := hHeld2
                  clear hHeld2
                  try simp only [Act.put, List.setIfInBounds_toArray, List.set_cons_zero, List.set_cons_succ]
                  refine wpAnyH_ready (rs := [10]) (by kernel_rfl) (by simp) ?_
                  refine AllReadyH.cons rfl (fun K hK => ?_) AllReadyH.nil
                  have hGa := hGT2.fr0 (((Fr.refl [] _).alloc (.cells #[.int .i64 Y.kind, .string Y.text, .slice A10 Y.slots.length c10] 27)).drew)
                  have hcl : Cells ((W2.alloc (.cells #[.int .i64 Y.kind, .string Y.text, .slice A10 Y.slots.length c10] 27)).drew) (some ⟨W2.heap.size, 0, none⟩) [.int .i64 Y.kind, .string Y.text, .slice A10 Y.slots.length c10] := (Cells.lit (w := W2) (ty := 27) (ys := [.int .i64 Y.kind, .string Y.text, .slice A10 Y.slots.length c10]) (g := W2.heap.size) rfl).fr0 ((Fr.refl _ _).drew)
                  refine step_append_g rfl (.tmp 76) (.tmp 78) _ rfl elemTrees (.slice A9 G2.length c9) (G2.flatMap encT) rfl hGa.own (some ⟨W2.heap.size, 0, none⟩) 1 1 [.int .i64 Y.kind, .string Y.text, .slice A10 Y.slots.length c10] rfl hcl rfl (Nat.le_refl _) (by simp; exact ⟨rfl, rfl, rfl⟩) hbig (by simp; omega) ?_
                  intro A11 c11 w11 ho11 hg11 hat11
                  have hC := hC.grown hg11 hrow
                  have hCV := Fr.app (((hV2).alloc (.cells #[.int .i64 Y.kind, .string Y.text, .slice A10 Y.slots.length c10] 27)).drew) hGa.own (Nat.le_refl _) hg11
                  have hGb1 := ((hG2.alloc (.cells #[.int .i64 Y.kind, .string Y.text, .slice A10 Y.slots.length c10] 27)).drew).grown hg11 (hGT.ne hgV)
                  have g0 := hGb1.cell k hgk
                  have g1 := hGb1.frozen k
                  refine hK.out _ _ (by with_reducible exact ⟨(hC).cell o22 hno, (hC).cell y0 hny, (hC).cell y1 hny, (hC).cell y2 hny⟩) (fun hHeld2 => ?_)
                  clear hK K hHeld
                  have hHeld := hHeld2
                  clear hHeld2
                  try simp only [Act.put, List.setIfInBounds_toArray, List.set_cons_zero, List.set_cons_succ]
                  refine wpAnyH_take (i := 11) (v := ?_) rfl (by kernel_rfl) (by kernel_rfl) (by kernel_rfl) (fun _ _ _ h => h) (Or.inl ⟨by rfl, fun w hSw => ?_⟩) (by assumption) ?_
                  rotate_left 1
                  · (try dsimp only at hSw); go_simp; try with_reducible rfl
                  try simp only [Act.put, List.setIfInBounds_toArray, List.set_cons_zero, List.set_cons_succ]
                  refine wpAnyH_ready (rs := [12]) (by kernel_rfl) (by simp) ?_
                  refine AllReadyH.cons rfl (fun K hK => ?_) AllReadyH.nil
                  go_simp
                  have hC := hC.setCell (p := ⟨gb, k, none⟩) (.inl hgz) (.slice A11 (G2.length + 1) c11)
                  have hCV := hCV.setCell (p := ⟨gb, k, none⟩) (.inl (by simp)) (.slice A11 (G2.length + 1) c11)
                  refine hK.out _ _ (by with_reducible exact ⟨(hC).cell o22 hno, (hC).cell y0 hny, (hC).cell y1 hny, (hC).cell y2 hny⟩) (fun hHeld2 => ?_)
                  clear hK K hHeld
                  have hHeld := hHeld2
                  clear hHeld2
                  try simp only [Act.put, List.setIfInBounds_toArray, List.set_cons_zero, List.set_cons_succ]
                  refine wpAnyH_done (by kernel_rfl) ?_ _
                  refine NoPanic.normal ?_
                  have hGc := (hGa.app (G2 := [((Y, A10, c10) : TreeH)]) (m := 1) (fun p hp => by
                    obtain rfl : p = ((Y, A10, c10) : TreeH) := by simpa using hp
                    exact (RH.sub hRY fun j _ hj => hGT.bad_lt (by omega) j hj).fr0 (((Fr.refl _ _).alloc _).drew)) rfl rfl hg11 hat11 ho11).fr ((Fr.refl [gb] w11).setCell (p := ⟨gb, k, none⟩) (.inl (by simp)) (.slice A11 (G2.length + 1) c11)) (by simp; exact hgV)
                  have hBn := hGb1.set_ k (.slice A11 (G2.length + 1) c11)
                  go_wp2_with fail
                  go_roundw
                  case rel =>
                    refine ⟨m + 1, A11, c11, G2 ++ [((Y, A10, c10) : TreeH)], by omega, by go_num, by rw [hnx.out, hrx.out]; exact congrArg (Value.int .i64) (by show (st3.2 : Int) + (y.nodes : Int) = ((st3.2 + y.nodes : Nat) : Int); omega), (show _ = _ by rw [List.map_append, hG2m.out, hnx.out, hrx.out]; rfl), hGc, ?_, hCV⟩
                    rw [List.setIfInBounds_toArray, List.set_set] at hBn
                    rw [List.length_append]
                    exact hBn
                  case measure => simp [intOf]; omega
              · have hyes : (st3.2 : Int) ∈ at_ := by simpa using hin
                have HIN := Lib.hid hin
                have hs0 := hfw7.cell s0 (by simp)
                have hs1 := hfw7.cell s1 (by simp)
                have hs2 := hfw7.cell s2 (by simp)
                have he3 := hfw7.cell e3 (by simp)
                have tb70 := hf7.cell tbm0 (by simp)
                have hwr : IntKind.i64.wrap ((st3.2 : Int) + (y.nodes : Int)) = ((st3.2 + y.nodes : Nat) : Int) := by rw [IntWalk.i64_in _ (by omega)]; omega
                obtain ⟨mv, hmv⟩ : ∃ mv, s.many = mv := ⟨_, rfl⟩
                have HMV := Lib.hid hmv
                rw [hmv] at hs0
                have hkd := HKO.out
                have HKR : Hid (∀ x ∈ s.kinds, 0 ≤ x ∧ x < g.length) := hkd.2
                clear hin hmv
                by_cases hmz : mv = 0
                · subst hmz
                  have hjm := hkd.2 _ (lowest_mem (L := L) hkd.1)
                  obtain ⟨jn, hjn⟩ : ∃ jn : Nat, lowestL L s.kinds = jn := ⟨(lowestL L s.kinds).toNat, by omega⟩
                  have hjl : jn < g.length := by omega
                  have hj2 := HLE.out jn hjl
                  have hj1 : getI L (jn : Int) ≤ ((getI L (jn : Int)).toNat : Int) := Int.self_le_toNat _
                  have hch : choiceF (L.map dnI) s.kinds = (jn : Int) := by
                    have hks2 := hkd.2
                    rw [← hok.sz.1] at hks2
                    rcases choice_eq hok.pos hkd.1 hks2 with h | h
                    · rw [h.1, hjn]
                    · rw [hjn] at h; omega
                  have HC := Lib.hid hch
                  obtain ⟨Y, hY⟩ : ∃ Y, leastT g L (jn : Int) = Y := ⟨_, rfl⟩
                  have HT : Hid (leastF g L (getI L (jn : Int)).toNat jn = Y) := hY
                  have hrx : Hid (edX g (decP g L at_) s st3 y = (st3.1 ++ [Y], st3.2 + y.nodes)) := by show _ = _; rw [← hY, ← hjn]; exact edX_step (nodeE_some (decP_least hyes HMV.out))
                  clear hch hY hjn hjm hkd hyes
                  go_wp2_with fail
                  rw [HW7.out]
                  refine (Has_any D da at_ (st3.2 : Nat) _ (hat.fr0 hfw7)).mono ?_
                  rw [HIN.out]
                  rintro e w8 ⟨rfl, n8, rfl⟩
                  go_wp2_with fail
                  refine (refNodes_any nn y _ S _ ⟨A8, c8, rfl, hX.fr0 (Fr.trans hfw7 frx)⟩ (by omega)).mono ?_
                  rintro e w9 ⟨rfl, hf9⟩
                  have hf9 : Fr [] W7 w9 := Fr.trans frx hf9
                  have gb9 := hf9.cell gb7 (by simp)
                  have tb9 := hf9.cell tb70 (by simp)
                  have he9 := hf9.cell he3 (by simp)
                  have hs90 := hf9.cell hs0 (by simp)
                  have hs91 := hf9.cell hs1 (by simp)
                  have hs92 := hf9.cell hs2 (by simp)
                  obtain ⟨W2, hW2⟩ : ∃ W2, W2 = w9.alloc (.cells #[.int .u8 0, .slice A4 s.kinds.length c4, .string s.between] 55) := ⟨_, rfl⟩
                  have hf2 : Fr [] wr W2 := by rw [hW2]; exact (hf7.trans hf9).alloc _
                  have hBy : Blk W2 w9.heap.size 55 #[.int .u8 0, .slice A4 s.kinds.length c4, .string s.between] := by rw [hW2]; exact Blk.new _ _ _ _ rfl
                  have yc0 := hBy.cell 0 rfl
                  rw [hW2] at yc0
                  have HW2 := Lib.hid hW2.symm
                  have hz79 := (hf7.trans hf9).size
                  obtain ⟨yb, hyb1⟩ : ∃ yb, yb = w9.heap.size := ⟨_, rfl⟩
                  have hyb : wr.heap.size ≤ yb := by omega
                  rw [← hyb1] at hBy
                  have HYB := Lib.hid hyb1.symm
                  clear hW2 hyb1 hs0 hs1 hs2 he3 tb70
                  have hV2 : Fr [gb] V W2 := hfm.trans (hf2.mono (by simp))
                  have hGT2 := hGT.fr0 hf2
                  have hG2 := hBg.fr hf2 (by simp)
                  have hz2 := hf2.size
                  obtain ⟨Zs, hZs⟩ : ∃ Zs, Zs = gb :: (Value.slice A9 G2.length c9).ownBlock.toList := ⟨_, rfl⟩
                  have hown9 : ∀ j, (Value.slice A9 G2.length c9).ownBlock = some j → V.heap.size ≤ j ∧ j < wr.heap.size := fun j hj => by
                    rcases A9 with _ | a
                    · cases hj
                    · have h := own_block hGT.own rfl
                      have hj : a.block = j := by simpa [Value.ownBlock] using hj
                      omega
                  have hno : ob ∉ Zs := fun h => by
                    rw [hZs] at h
                    rcases List.mem_cons.1 h with h | h
                    · exact ne2 h
                    · have := hown9 ob (by simpa using h)
                      omega
                  have hng : w.heap.size ∉ Zs := fun h => by
                    rw [hZs] at h
                    rcases List.mem_cons.1 h with h | h
                    · exact ne0 h
                    · have := hown9 w.heap.size (by simpa using h)
                      omega
                  have hny : yb ∉ Zs := fun h => by
                    rw [hZs] at h
                    rcases List.mem_cons.1 h with h | h
                    · omega
                    · have := hown9 yb (by simpa using h)
                      omega
                  have hrow : ∀ j, (Value.slice A9 G2.length c9).ownBlock = some j → j ∈ Zs ∨ W2.heap.size ≤ j := fun j hj => .inl (by rw [hZs]; simp [hj])
                  have hgz : gb ∈ Zs := by rw [hZs]; simp
                  have o22 : W2.cell? ⟨ob, 2, none⟩ = some (.slice (some ⟨gb, 0, none⟩) t.slots.length t.slots.length) := hV2.cell o2 (by simp; exact ne2)
                  have g0 : W2.cell? ⟨gb, k, none⟩ = some (.slice A9 G2.length c9) := hG2.cell k hgk
                  have hCW := Fr.refl Zs W2
                  have hC0 := hCW.drew
                  have hown9 := Lib.hid hown9
                  clear hZs
                  have gx : W2.cell? ⟨w.heap.size, 0, none⟩ = some (.slice (some ⟨b, off, none⟩) g.length c) := hV2.cell gb0 (by simp; exact ne0)
                  have y0 : W2.cell? ⟨yb, 0, none⟩ = some (.int .u8 0) := hBy.cell 0 rfl
                  have y1 : W2.cell? ⟨yb, 1, none⟩ = some (.slice A4 s.kinds.length c4) := hBy.cell 1 rfl
                  have y2 : W2.cell? ⟨yb, 2, none⟩ = some (.string s.between) := hBy.cell 2 rfl
                  have hfw2 := hfw.trans hf2
                  go_wp2_with fail
                  rw [HW2.out, HYB.out]
                  clear yc0
                  refine wp_region_noPanic ?_
                  refine wp_region_held_drew (S := (fun w' => w'.cell? ⟨ob, 2, none⟩ = some (.slice (some ⟨gb, 0, none⟩) t.slots.length t.slots.length) ∧ w'.cell? ⟨w.heap.size, 0, none⟩ = some (.slice (some ⟨b, off, none⟩) g.length c) ∧ w'.cell? ⟨yb, 0, none⟩ = some (.int .u8 0) ∧ w'.cell? ⟨yb, 1, none⟩ = some (.slice A4 s.kinds.length c4) ∧ w'.cell? ⟨yb, 2, none⟩ = some (.string s.between))) (by kernel_rfl) ?_ (fun hHeld => ?_)
                  · with_reducible exact ⟨(hC0).cell o22 hno, (hC0).cell gx hng, (hC0).cell y0 hny, (hC0).cell y1 hny, (hC0).cell y2 hny⟩
                  refine wpAnyH_take (i := 0) (v := ?_) rfl (by kernel_rfl) (by kernel_rfl) (by kernel_rfl) (fun _ _ _ h => h) (Or.inl ⟨by rfl, fun w hSw => ?_⟩) (by assumption) ?_
                  rotate_left 1
                  · (try dsimp only at hSw); go_simp; try with_reducible rfl
                  try simp only [Act.put, List.setIfInBounds_toArray, List.set_cons_zero, List.set_cons_succ]
                  refine wpAnyH_take (i := 1) (v := ?_) rfl (by kernel_rfl) (by kernel_rfl) (by kernel_rfl) (fun _ _ _ h => h) (Or.inl ⟨by rfl, fun w hSw => ?_⟩) (by assumption) ?_
                  rotate_left 1
                  · (try dsimp only at hSw); go_simp; try with_reducible rfl
                  try simp only [Act.put, List.setIfInBounds_toArray, List.set_cons_zero, List.set_cons_succ]
                  refine wpAnyH_take (i := 2) (v := ?_) rfl (by kernel_rfl) (by kernel_rfl) (by kernel_rfl) (fun _ _ _ h => h) (Or.inl ⟨by rfl, fun w hSw => ?_⟩) (by assumption) ?_
                  rotate_left 1
                  · (try dsimp only at hSw); go_simp; try with_reducible rfl
                  try simp only [Act.put, List.setIfInBounds_toArray, List.set_cons_zero, List.set_cons_succ]
                  refine wpAnyH_take (i := 3) (v := ?_) rfl (by kernel_rfl) (by kernel_rfl) (by kernel_rfl) (fun _ _ _ h => h) (Or.inl ⟨by rfl, fun w hSw => ?_⟩) (by assumption) ?_
                  rotate_left 1
                  · (try dsimp only at hSw); go_simp; try with_reducible rfl
                  try simp only [Act.put, List.setIfInBounds_toArray, List.set_cons_zero, List.set_cons_succ]
                  refine wpAnyH_take (i := 4) (v := ?_) rfl (by kernel_rfl) (by kernel_rfl) (by kernel_rfl) (fun _ _ _ h => h) (Or.inl ⟨by rfl, fun w hSw => ?_⟩) (by assumption) ?_
                  rotate_left 1
                  · (try dsimp only at hSw); go_simp; try with_reducible rfl
                  try simp only [Act.put, List.setIfInBounds_toArray, List.set_cons_zero, List.set_cons_succ]
                  refine wpAnyH_take (i := 5) (v := ?_) rfl (by kernel_rfl) (by kernel_rfl) (by kernel_rfl) (fun _ _ _ h => h) (Or.inl ⟨by rfl, fun w hSw => ?_⟩) (by assumption) ?_
                  rotate_left 1
                  · (try dsimp only at hSw); go_simp; try with_reducible rfl
                  try simp only [Act.put, List.setIfInBounds_toArray, List.set_cons_zero, List.set_cons_succ]
                  refine wpAnyH_take (i := 6) (v := ?_) rfl (by kernel_rfl) (by kernel_rfl) (by kernel_rfl) (fun _ _ _ h => h) (Or.inl ⟨by rfl, fun w hSw => ?_⟩) (by assumption) ?_
                  rotate_left 1
                  · (try dsimp only at hSw); go_simp; try with_reducible rfl
                  try simp only [Act.put, List.setIfInBounds_toArray, List.set_cons_zero, List.set_cons_succ]
                  refine wpAnyH_take (i := 8) (v := ?_) rfl (by kernel_rfl) (by kernel_rfl) (by kernel_rfl) (fun _ _ _ h => h) (Or.inl ⟨by rfl, fun w hSw => ?_⟩) (by assumption) ?_
                  rotate_left 1
                  · (try dsimp only at hSw); go_simp; try with_reducible rfl
                  try simp only [Act.put, List.setIfInBounds_toArray, List.set_cons_zero, List.set_cons_succ]
                  refine wpAnyH_take (i := 9) (v := ?_) rfl (by kernel_rfl) (by kernel_rfl) (by kernel_rfl) (fun _ _ _ h => h) (Or.inl ⟨by rfl, fun w hSw => ?_⟩) (by assumption) ?_
                  rotate_left 1
                  · (try dsimp only at hSw); go_simp; try with_reducible rfl
                  try simp only [Act.put, List.setIfInBounds_toArray, List.set_cons_zero, List.set_cons_succ]
                  refine wpAnyH_take (i := 10) (v := ?_) rfl (by kernel_rfl) (by kernel_rfl) (by kernel_rfl) (fun _ _ _ h => h) (Or.inl ⟨by rfl, fun w hSw => ?_⟩) (by assumption) ?_
                  rotate_left 1
                  · (try dsimp only at hSw); go_simp; try with_reducible rfl
                  try simp only [Act.put, List.setIfInBounds_toArray, List.set_cons_zero, List.set_cons_succ]
                  refine wpAnyH_take (i := 11) (v := ?_) rfl (by kernel_rfl) (by kernel_rfl) (by kernel_rfl) (fun _ _ _ h => h) (Or.inl ⟨by rfl, fun w hSw => ?_⟩) (by assumption) ?_
                  rotate_left 1
                  · (try dsimp only at hSw); go_simp; try with_reducible rfl
                  try simp only [Act.put, List.setIfInBounds_toArray, List.set_cons_zero, List.set_cons_succ]
                  refine wpAnyH_ready (rs := [7, 12]) (by kernel_rfl) (by simp) ?_
                  refine AllReadyH.cons rfl (fun K hK => ?_) (AllReadyH.cons rfl (fun K hK => ?_) AllReadyH.nil)
                  · go_simp
                    refine hK.out _ _ (by with_reducible exact ⟨(hC0).cell o22 hno, (hC0).cell gx hng, (hC0).cell y0 hny, (hC0).cell y1 hny, (hC0).cell y2 hny⟩) (fun hHeld2 => ?_)
                    clear hK K hHeld
                    have hHeld := hHeld2
                    clear hHeld2
                    try simp only [Act.put, List.setIfInBounds_toArray, List.set_cons_zero, List.set_cons_succ]
                    refine wpAnyH_ready (rs := [12]) (by kernel_rfl) (by simp) ?_
                    refine AllReadyH.cons rfl (fun K hK => ?_) AllReadyH.nil
                    go_simp
                    refine (choice_any g.length B A4 d c4 0 s.kinds s.between (L.map dnI) _ hll (hL.fr0 (Fr.trans hfw2 frx)) (hks.fr0 (Fr.trans hfw2 frx)) HKR.out).mono ?_
                    rw [HC.out]
                    rintro e wa ⟨rfl, hfa⟩
                    have hfa : Fr [] W2 wa := Fr.trans frx hfa
                    have hC := hfa.mono (T := Zs) (by simp)
                    have hG2 := hG2.fr hfa (by simp)
                    have g0 := hG2.cell k hgk
                    refine hK.out _ _ (by with_reducible exact ⟨(hC).cell o22 hno, (hC).cell gx hng, (hC).cell y0 hny, (hC).cell y1 hny, (hC).cell y2 hny⟩) (fun hHeld2 => ?_)
                    clear hK K hHeld
                    have hHeld := hHeld2
                    clear hHeld2
                    try simp only [Act.put, List.setIfInBounds_toArray, List.set_cons_zero, List.set_cons_succ]
                    refine wpAnyH_ready (rs := [13]) (by kernel_rfl) (by simp) ?_
                    refine AllReadyH.cons rfl (fun K hK => ?_) AllReadyH.nil
                    go_simp
                    refine (refleast_any (some ⟨b, off, none⟩) B c d g L hok (getI L (jn : Int)).toNat jn _ (ha.fr0 (Fr.trans hfw2 (Fr.trans hfa frx))) (hL.fr0 (Fr.trans hfw2 (Fr.trans hfa frx))) hjl hj1 hj2).mono ?_
                    rw [HT.out]
                    rintro e wb ⟨A10, c10, rfl, hfb, hRl⟩
                    have hfb : Fr [] wa wb := Fr.trans frx hfb
                    have hfab := hfa.trans hfb
                    have hC := hfab.mono (T := Zs) (by simp)
                    have hG2 := hG2.fr hfb (by simp)
                    have g0 := hG2.cell k hgk
                    have hzab := hfab.size
                    have hGTb := hGT2.fr0 hfab
                    refine hK.out _ _ (by with_reducible exact ⟨(hC).cell o22 hno, (hC).cell gx hng, (hC).cell y0 hny, (hC).cell y1 hny, (hC).cell y2 hny⟩) (fun hHeld2 => ?_)
                    clear hK K hHeld
                    have hHeld := hHeld2
                    clear hHeld2
                    try simp only [Act.put, List.setIfInBounds_toArray, List.set_cons_zero, List.set_cons_succ]
                    refine wpAnyH_ready (rs := [14]) (by kernel_rfl) (by simp) ?_
                    refine AllReadyH.cons rfl (fun K hK => ?_) AllReadyH.nil
                    go_simp
                    have hC := hC.alloc (.cells #[.int .i64 Y.kind, .string Y.text, .slice A10 Y.slots.length c10] 27)
                    have g0 : (wb.alloc (.cells #[.int .i64 Y.kind, .string Y.text, .slice A10 Y.slots.length c10] 27)).cell? ⟨gb, k, none⟩ = some (.slice A9 G2.length c9) := (hG2.alloc _).cell k hgk
                    refine hK.out _ _ (by with_reducible exact ⟨(hC).cell o22 hno, (hC).cell gx hng, (hC).cell y0 hny, (hC).cell y1 hny, (hC).cell y2 hny⟩) (fun hHeld2 => ?_)
                    clear hK K hHeld
                    have hHeld := hHeld2
                    clear hHeld2
                    try simp only [Act.put, List.setIfInBounds_toArray, List.set_cons_zero, List.set_cons_succ]
                    refine wpAnyH_ready (rs := [15]) (by kernel_rfl) (by simp) ?_
                    refine AllReadyH.cons rfl (fun K hK => ?_) AllReadyH.nil
                    have hGa := hGTb.fr0 ((Fr.refl [] _).alloc (.cells #[.int .i64 Y.kind, .string Y.text, .slice A10 Y.slots.length c10] 27))
                    have hcl := Cells.lit (w := wb) (ty := 27) (ys := [.int .i64 Y.kind, .string Y.text, .slice A10 Y.slots.length c10]) (g := wb.heap.size) rfl
                    refine step_append_g rfl (.tmp 106) (.tmp 113) _ rfl elemTrees (.slice A9 G2.length c9) (G2.flatMap encT) rfl hGa.own (some ⟨wb.heap.size, 0, none⟩) 1 1 [.int .i64 Y.kind, .string Y.text, .slice A10 Y.slots.length c10] rfl hcl rfl (Nat.le_refl _) (by simp; exact ⟨rfl, rfl, rfl⟩) hbig (by simp; omega) ?_
                    intro A11 c11 w11 ho11 hg11 hat11
                    have hC := hC.grown hg11 hrow
                    have hCV := Fr.app ((hV2.trans (hfab.mono (T := [gb]) (by simp))).alloc (.cells #[.int .i64 Y.kind, .string Y.text, .slice A10 Y.slots.length c10] 27)) hGa.own (Nat.le_refl _) hg11
                    have hGb1 := (hG2.alloc (.cells #[.int .i64 Y.kind, .string Y.text, .slice A10 Y.slots.length c10] 27)).grown hg11 (hGT.ne hgV)
                    have g0 := hGb1.cell k hgk
                    have g1 := hGb1.frozen k
                    have hRY : RH (fun j => j < wr.heap.size) (nn + 1024) wb A10 c10 Y := (hRl.sub (S' := fun j => j < wr.heap.size) fun j _ hj => by have hj : j < wr.heap.size := hj; have := hfa.size; show j < wa.heap.size; omega).mono (by omega)
                    refine hK.out _ _ (by with_reducible exact ⟨(hC).cell o22 hno, (hC).cell gx hng, (hC).cell y0 hny, (hC).cell y1 hny, (hC).cell y2 hny⟩) (fun hHeld2 => ?_)
                    clear hK K hHeld
                    have hHeld := hHeld2
                    clear hHeld2
                    try simp only [Act.put, List.setIfInBounds_toArray, List.set_cons_zero, List.set_cons_succ]
                    refine wpAnyH_take (i := 16) (v := ?_) rfl (by kernel_rfl) (by kernel_rfl) (by kernel_rfl) (fun _ _ _ h => h) (Or.inl ⟨by rfl, fun w hSw => ?_⟩) (by assumption) ?_
                    rotate_left 1
                    · (try dsimp only at hSw); go_simp; try with_reducible rfl
                    try simp only [Act.put, List.setIfInBounds_toArray, List.set_cons_zero, List.set_cons_succ]
                    refine wpAnyH_ready (rs := [17]) (by kernel_rfl) (by simp) ?_
                    refine AllReadyH.cons rfl (fun K hK => ?_) AllReadyH.nil
                    go_simp
                    have hC := hC.setCell (p := ⟨gb, k, none⟩) (.inl hgz) (.slice A11 (G2.length + 1) c11)
                    have hCV := hCV.setCell (p := ⟨gb, k, none⟩) (.inl (by simp)) (.slice A11 (G2.length + 1) c11)
                    refine hK.out _ _ (by with_reducible exact ⟨(hC).cell o22 hno, (hC).cell gx hng, (hC).cell y0 hny, (hC).cell y1 hny, (hC).cell y2 hny⟩) (fun hHeld2 => ?_)
                    clear hK K hHeld
                    have hHeld := hHeld2
                    clear hHeld2
                    try simp only [Act.put, List.setIfInBounds_toArray, List.set_cons_zero, List.set_cons_succ]
                    refine wpAnyH_done (by kernel_rfl) ?_ _
                    refine NoPanic.normal ?_
                    have hGc := (hGa.app (G2 := [((Y, A10, c10) : TreeH)]) (m := 1) (fun p hp => by
                      obtain rfl : p = ((Y, A10, c10) : TreeH) := by simpa using hp
                      exact (RH.sub hRY fun j _ hj => hGT.bad_lt (by omega) j hj).fr0 ((Fr.refl _ _).alloc _)) rfl rfl hg11 hat11 ho11).fr ((Fr.refl [gb] w11).setCell (p := ⟨gb, k, none⟩) (.inl (by simp)) (.slice A11 (G2.length + 1) c11)) (by simp; exact hgV)
                    have hBn := hGb1.set_ k (.slice A11 (G2.length + 1) c11)
                    go_wp2_with fail
                    go_roundw
                    case rel =>
                      refine ⟨m + 1, A11, c11, G2 ++ [((Y, A10, c10) : TreeH)], by omega, by go_num, by rw [hnx.out, hrx.out]; exact congrArg (Value.int .i64) (by show (st3.2 : Int) + (y.nodes : Int) = ((st3.2 + y.nodes : Nat) : Int); omega), (show _ = _ by rw [List.map_append, hG2m.out, hnx.out, hrx.out]; rfl), hGc, ?_, hCV⟩
                      rw [List.setIfInBounds_toArray, List.set_set] at hBn
                      rw [List.length_append]
                      exact hBn
                    case measure => simp [intOf]; omega
                  · go_simp
                    refine (choice_any g.length B A4 d c4 0 s.kinds s.between (L.map dnI) _ hll (hL.fr0 (Fr.trans hfw2 frx)) (hks.fr0 (Fr.trans hfw2 frx)) HKR.out).mono ?_
                    rw [HC.out]
                    rintro e wa ⟨rfl, hfa⟩
                    have hfa : Fr [] W2 wa := Fr.trans frx hfa
                    have hC := hfa.mono (T := Zs) (by simp)
                    have hG2 := hG2.fr hfa (by simp)
                    have g0 := hG2.cell k hgk
                    refine hK.out _ _ (by with_reducible exact ⟨(hC).cell o22 hno, (hC).cell gx hng, (hC).cell y0 hny, (hC).cell y1 hny, (hC).cell y2 hny⟩) (fun hHeld2 => ?_)
                    clear hK K hHeld
                    have hHeld := hHeld2
                    clear hHeld2
                    try simp only [Act.put, List.setIfInBounds_toArray, List.set_cons_zero, List.set_cons_succ]
                    refine wpAnyH_ready (rs := [7, 13]) (by kernel_rfl) (by simp) ?_
                    refine AllReadyH.cons rfl (fun K hK => ?_) (AllReadyH.cons rfl (fun K hK => ?_) AllReadyH.nil)
                    · go_simp
                      refine hK.out _ _ (by with_reducible exact ⟨(hC).cell o22 hno, (hC).cell gx hng, (hC).cell y0 hny, (hC).cell y1 hny, (hC).cell y2 hny⟩) (fun hHeld2 => ?_)
                      clear hK K hHeld
                      have hHeld := hHeld2
                      clear hHeld2
                      try simp only [Act.put, List.setIfInBounds_toArray, List.set_cons_zero, List.set_cons_succ]
                      refine wpAnyH_ready (rs := [13]) (by kernel_rfl) (by simp) ?_
                      refine AllReadyH.cons rfl (fun K hK => ?_) AllReadyH.nil
                      go_simp
                      refine (refleast_any (some ⟨b, off, none⟩) B c d g L hok (getI L (jn : Int)).toNat jn _ (ha.fr0 (Fr.trans hfw2 (Fr.trans hfa frx))) (hL.fr0 (Fr.trans hfw2 (Fr.trans hfa frx))) hjl hj1 hj2).mono ?_
                      rw [HT.out]
                      rintro e wb ⟨A10, c10, rfl, hfb, hRl⟩
                      have hfb : Fr [] wa wb := Fr.trans frx hfb
                      have hfab := hfa.trans hfb
                      have hC := hfab.mono (T := Zs) (by simp)
                      have hG2 := hG2.fr hfb (by simp)
                      have g0 := hG2.cell k hgk
                      have hzab := hfab.size
                      have hGTb := hGT2.fr0 hfab
                      refine hK.out _ _ (by with_reducible exact ⟨(hC).cell o22 hno, (hC).cell gx hng, (hC).cell y0 hny, (hC).cell y1 hny, (hC).cell y2 hny⟩) (fun hHeld2 => ?_)
                      clear hK K hHeld
                      have hHeld := hHeld2
                      clear hHeld2
                      try simp only [Act.put, List.setIfInBounds_toArray, List.set_cons_zero, List.set_cons_succ]
                      refine wpAnyH_ready (rs := [14]) (by kernel_rfl) (by simp) ?_
                      refine AllReadyH.cons rfl (fun K hK => ?_) AllReadyH.nil
                      go_simp
                      have hC := hC.alloc (.cells #[.int .i64 Y.kind, .string Y.text, .slice A10 Y.slots.length c10] 27)
                      have g0 : (wb.alloc (.cells #[.int .i64 Y.kind, .string Y.text, .slice A10 Y.slots.length c10] 27)).cell? ⟨gb, k, none⟩ = some (.slice A9 G2.length c9) := (hG2.alloc _).cell k hgk
                      refine hK.out _ _ (by with_reducible exact ⟨(hC).cell o22 hno, (hC).cell gx hng, (hC).cell y0 hny, (hC).cell y1 hny, (hC).cell y2 hny⟩) (fun hHeld2 => ?_)
                      clear hK K hHeld
                      have hHeld := hHeld2
                      clear hHeld2
                      try simp only [Act.put, List.setIfInBounds_toArray, List.set_cons_zero, List.set_cons_succ]
                      refine wpAnyH_ready (rs := [15]) (by kernel_rfl) (by simp) ?_
                      refine AllReadyH.cons rfl (fun K hK => ?_) AllReadyH.nil
                      have hGa := hGTb.fr0 ((Fr.refl [] _).alloc (.cells #[.int .i64 Y.kind, .string Y.text, .slice A10 Y.slots.length c10] 27))
                      have hcl := Cells.lit (w := wb) (ty := 27) (ys := [.int .i64 Y.kind, .string Y.text, .slice A10 Y.slots.length c10]) (g := wb.heap.size) rfl
                      refine step_append_g rfl (.tmp 106) (.tmp 113) _ rfl elemTrees (.slice A9 G2.length c9) (G2.flatMap encT) rfl hGa.own (some ⟨wb.heap.size, 0, none⟩) 1 1 [.int .i64 Y.kind, .string Y.text, .slice A10 Y.slots.length c10] rfl hcl rfl (Nat.le_refl _) (by simp; exact ⟨rfl, rfl, rfl⟩) hbig (by simp; omega) ?_
                      intro A11 c11 w11 ho11 hg11 hat11
                      have hC := hC.grown hg11 hrow
                      have hCV := Fr.app ((hV2.trans (hfab.mono (T := [gb]) (by simp))).alloc (.cells #[.int .i64 Y.kind, .string Y.text, .slice A10 Y.slots.length c10] 27)) hGa.own (Nat.le_refl _) hg11
                      have hGb1 := (hG2.alloc (.cells #[.int .i64 Y.kind, .string Y.text, .slice A10 Y.slots.length c10] 27)).grown hg11 (hGT.ne hgV)
                      have g0 := hGb1.cell k hgk
                      have g1 := hGb1.frozen k
                      have hRY : RH (fun j => j < wr.heap.size) (nn + 1024) wb A10 c10 Y := (hRl.sub (S' := fun j => j < wr.heap.size) fun j _ hj => by have hj : j < wr.heap.size := hj; have := hfa.size; show j < wa.heap.size; omega).mono (by omega)
                      refine hK.out _ _ (by with_reducible exact ⟨(hC).cell o22 hno, (hC).cell gx hng, (hC).cell y0 hny, (hC).cell y1 hny, (hC).cell y2 hny⟩) (fun hHeld2 => ?_)
                      clear hK K hHeld
                      have hHeld := hHeld2
                      clear hHeld2
                      try simp only [Act.put, List.setIfInBounds_toArray, List.set_cons_zero, List.set_cons_succ]
                      refine wpAnyH_take (i := 16) (v := ?_) rfl (by kernel_rfl) (by kernel_rfl) (by kernel_rfl) (fun _ _ _ h => h) (Or.inl ⟨by rfl, fun w hSw => ?_⟩) (by assumption) ?_
                      rotate_left 1
                      · (try dsimp only at hSw); go_simp; try with_reducible rfl
                      try simp only [Act.put, List.setIfInBounds_toArray, List.set_cons_zero, List.set_cons_succ]
                      refine wpAnyH_ready (rs := [17]) (by kernel_rfl) (by simp) ?_
                      refine AllReadyH.cons rfl (fun K hK => ?_) AllReadyH.nil
                      go_simp
                      have hC := hC.setCell (p := ⟨gb, k, none⟩) (.inl hgz) (.slice A11 (G2.length + 1) c11)
                      have hCV := hCV.setCell (p := ⟨gb, k, none⟩) (.inl (by simp)) (.slice A11 (G2.length + 1) c11)
                      refine hK.out _ _ (by with_reducible exact ⟨(hC).cell o22 hno, (hC).cell gx hng, (hC).cell y0 hny, (hC).cell y1 hny, (hC).cell y2 hny⟩) (fun hHeld2 => ?_)
                      clear hK K hHeld
                      have hHeld := hHeld2
                      clear hHeld2
                      try simp only [Act.put, List.setIfInBounds_toArray, List.set_cons_zero, List.set_cons_succ]
                      refine wpAnyH_done (by kernel_rfl) ?_ _
                      refine NoPanic.normal ?_
                      have hGc := (hGa.app (G2 := [((Y, A10, c10) : TreeH)]) (m := 1) (fun p hp => by
                        obtain rfl : p = ((Y, A10, c10) : TreeH) := by simpa using hp
                        exact (RH.sub hRY fun j _ hj => hGT.bad_lt (by omega) j hj).fr0 ((Fr.refl _ _).alloc _)) rfl rfl hg11 hat11 ho11).fr ((Fr.refl [gb] w11).setCell (p := ⟨gb, k, none⟩) (.inl (by simp)) (.slice A11 (G2.length + 1) c11)) (by simp; exact hgV)
                      have hBn := hGb1.set_ k (.slice A11 (G2.length + 1) c11)
                      go_wp2_with fail
                      go_roundw
                      case rel =>
                        refine ⟨m + 1, A11, c11, G2 ++ [((Y, A10, c10) : TreeH)], by omega, by go_num, by rw [hnx.out, hrx.out]; exact congrArg (Value.int .i64) (by show (st3.2 : Int) + (y.nodes : Int) = ((st3.2 + y.nodes : Nat) : Int); omega), (show _ = _ by rw [List.map_append, hG2m.out, hnx.out, hrx.out]; rfl), hGc, ?_, hCV⟩
                        rw [List.setIfInBounds_toArray, List.set_set] at hBn
                        rw [List.length_append]
                        exact hBn
                      case measure => simp [intOf]; omega
                    · go_simp
                      refine (refleast_any (some ⟨b, off, none⟩) B c d g L hok (getI L (jn : Int)).toNat jn _ (ha.fr0 (Fr.trans hfw2 (Fr.trans hfa frx))) (hL.fr0 (Fr.trans hfw2 (Fr.trans hfa frx))) hjl hj1 hj2).mono ?_
                      rw [HT.out]
                      rintro e wb ⟨A10, c10, rfl, hfb, hRl⟩
                      have hfb : Fr [] wa wb := Fr.trans frx hfb
                      have hfab := hfa.trans hfb
                      have hC := hfab.mono (T := Zs) (by simp)
                      have hG2 := hG2.fr hfb (by simp)
                      have g0 := hG2.cell k hgk
                      have hzab := hfab.size
                      have hGTb := hGT2.fr0 hfab
                      refine hK.out _ _ (by with_reducible exact ⟨(hC).cell o22 hno, (hC).cell gx hng, (hC).cell y0 hny, (hC).cell y1 hny, (hC).cell y2 hny⟩) (fun hHeld2 => ?_)
                      clear hK K hHeld
                      have hHeld := hHeld2
                      clear hHeld2
                      try simp only [Act.put, List.setIfInBounds_toArray, List.set_cons_zero, List.set_cons_succ]
                      refine wpAnyH_ready (rs := [7, 14]) (by kernel_rfl) (by simp) ?_
                      refine AllReadyH.cons rfl (fun K hK => ?_) (AllReadyH.cons rfl (fun K hK => ?_) AllReadyH.nil)
                      · go_simp
                        refine hK.out _ _ (by with_reducible exact ⟨(hC).cell o22 hno, (hC).cell gx hng, (hC).cell y0 hny, (hC).cell y1 hny, (hC).cell y2 hny⟩) (fun hHeld2 => ?_)
                        clear hK K hHeld
                        have hHeld := hHeld2
                        clear hHeld2
                        try simp only [Act.put, List.setIfInBounds_toArray, List.set_cons_zero, List.set_cons_succ]
                        refine wpAnyH_ready (rs := [14]) (by kernel_rfl) (by simp) ?_
                        refine AllReadyH.cons rfl (fun K hK => ?_) AllReadyH.nil
                        go_simp
                        have hC := hC.alloc (.cells #[.int .i64 Y.kind, .string Y.text, .slice A10 Y.slots.length c10] 27)
                        have g0 : (wb.alloc (.cells #[.int .i64 Y.kind, .string Y.text, .slice A10 Y.slots.length c10] 27)).cell? ⟨gb, k, none⟩ = some (.slice A9 G2.length c9) := (hG2.alloc _).cell k hgk
                        refine hK.out _ _ (by with_reducible exact ⟨(hC).cell o22 hno, (hC).cell gx hng, (hC).cell y0 hny, (hC).cell y1 hny, (hC).cell y2 hny⟩) (fun hHeld2 => ?_)
                        clear hK K hHeld
                        have hHeld := hHeld2
                        clear hHeld2
                        try simp only [Act.put, List.setIfInBounds_toArray, List.set_cons_zero, List.set_cons_succ]
                        refine wpAnyH_ready (rs := [15]) (by kernel_rfl) (by simp) ?_
                        refine AllReadyH.cons rfl (fun K hK => ?_) AllReadyH.nil
                        have hGa := hGTb.fr0 ((Fr.refl [] _).alloc (.cells #[.int .i64 Y.kind, .string Y.text, .slice A10 Y.slots.length c10] 27))
                        have hcl := Cells.lit (w := wb) (ty := 27) (ys := [.int .i64 Y.kind, .string Y.text, .slice A10 Y.slots.length c10]) (g := wb.heap.size) rfl
                        refine step_append_g rfl (.tmp 106) (.tmp 113) _ rfl elemTrees (.slice A9 G2.length c9) (G2.flatMap encT) rfl hGa.own (some ⟨wb.heap.size, 0, none⟩) 1 1 [.int .i64 Y.kind, .string Y.text, .slice A10 Y.slots.length c10] rfl hcl rfl (Nat.le_refl _) (by simp; exact ⟨rfl, rfl, rfl⟩) hbig (by simp; omega) ?_
                        intro A11 c11 w11 ho11 hg11 hat11
                        have hC := hC.grown hg11 hrow
                        have hCV := Fr.app ((hV2.trans (hfab.mono (T := [gb]) (by simp))).alloc (.cells #[.int .i64 Y.kind, .string Y.text, .slice A10 Y.slots.length c10] 27)) hGa.own (Nat.le_refl _) hg11
                        have hGb1 := (hG2.alloc (.cells #[.int .i64 Y.kind, .string Y.text, .slice A10 Y.slots.length c10] 27)).grown hg11 (hGT.ne hgV)
                        have g0 := hGb1.cell k hgk
                        have g1 := hGb1.frozen k
                        have hRY : RH (fun j => j < wr.heap.size) (nn + 1024) wb A10 c10 Y := (hRl.sub (S' := fun j => j < wr.heap.size) fun j _ hj => by have hj : j < wr.heap.size := hj; have := hfa.size; show j < wa.heap.size; omega).mono (by omega)
                        refine hK.out _ _ (by with_reducible exact ⟨(hC).cell o22 hno, (hC).cell gx hng, (hC).cell y0 hny, (hC).cell y1 hny, (hC).cell y2 hny⟩) (fun hHeld2 => ?_)
                        clear hK K hHeld
                        have hHeld := hHeld2
                        clear hHeld2
                        try simp only [Act.put, List.setIfInBounds_toArray, List.set_cons_zero, List.set_cons_succ]
                        refine wpAnyH_take (i := 16) (v := ?_) rfl (by kernel_rfl) (by kernel_rfl) (by kernel_rfl) (fun _ _ _ h => h) (Or.inl ⟨by rfl, fun w hSw => ?_⟩) (by assumption) ?_
                        rotate_left 1
                        · (try dsimp only at hSw); go_simp; try with_reducible rfl
                        try simp only [Act.put, List.setIfInBounds_toArray, List.set_cons_zero, List.set_cons_succ]
                        refine wpAnyH_ready (rs := [17]) (by kernel_rfl) (by simp) ?_
                        refine AllReadyH.cons rfl (fun K hK => ?_) AllReadyH.nil
                        go_simp
                        have hC := hC.setCell (p := ⟨gb, k, none⟩) (.inl hgz) (.slice A11 (G2.length + 1) c11)
                        have hCV := hCV.setCell (p := ⟨gb, k, none⟩) (.inl (by simp)) (.slice A11 (G2.length + 1) c11)
                        refine hK.out _ _ (by with_reducible exact ⟨(hC).cell o22 hno, (hC).cell gx hng, (hC).cell y0 hny, (hC).cell y1 hny, (hC).cell y2 hny⟩) (fun hHeld2 => ?_)
                        clear hK K hHeld
                        have hHeld := hHeld2
                        clear hHeld2
                        try simp only [Act.put, List.setIfInBounds_toArray, List.set_cons_zero, List.set_cons_succ]
                        refine wpAnyH_done (by kernel_rfl) ?_ _
                        refine NoPanic.normal ?_
                        have hGc := (hGa.app (G2 := [((Y, A10, c10) : TreeH)]) (m := 1) (fun p hp => by
                          obtain rfl : p = ((Y, A10, c10) : TreeH) := by simpa using hp
                          exact (RH.sub hRY fun j _ hj => hGT.bad_lt (by omega) j hj).fr0 ((Fr.refl _ _).alloc _)) rfl rfl hg11 hat11 ho11).fr ((Fr.refl [gb] w11).setCell (p := ⟨gb, k, none⟩) (.inl (by simp)) (.slice A11 (G2.length + 1) c11)) (by simp; exact hgV)
                        have hBn := hGb1.set_ k (.slice A11 (G2.length + 1) c11)
                        go_wp2_with fail
                        go_roundw
                        case rel =>
                          refine ⟨m + 1, A11, c11, G2 ++ [((Y, A10, c10) : TreeH)], by omega, by go_num, by rw [hnx.out, hrx.out]; exact congrArg (Value.int .i64) (by show (st3.2 : Int) + (y.nodes : Int) = ((st3.2 + y.nodes : Nat) : Int); omega), (show _ = _ by rw [List.map_append, hG2m.out, hnx.out, hrx.out]; rfl), hGc, ?_, hCV⟩
                          rw [List.setIfInBounds_toArray, List.set_set] at hBn
                          rw [List.length_append]
                          exact hBn
                        case measure => simp [intOf]; omega
                      · go_simp
                        have hC := hC.alloc (.cells #[.int .i64 Y.kind, .string Y.text, .slice A10 Y.slots.length c10] 27)
                        have g0 : (wb.alloc (.cells #[.int .i64 Y.kind, .string Y.text, .slice A10 Y.slots.length c10] 27)).cell? ⟨gb, k, none⟩ = some (.slice A9 G2.length c9) := (hG2.alloc _).cell k hgk
                        refine hK.out _ _ (by with_reducible exact ⟨(hC).cell o22 hno, (hC).cell gx hng, (hC).cell y0 hny, (hC).cell y1 hny, (hC).cell y2 hny⟩) (fun hHeld2 => ?_)
                        clear hK K hHeld
                        have hHeld := hHeld2
                        clear hHeld2
                        try simp only [Act.put, List.setIfInBounds_toArray, List.set_cons_zero, List.set_cons_succ]
                        refine wpAnyH_ready (rs := [7]) (by kernel_rfl) (by simp) ?_
                        refine AllReadyH.cons rfl (fun K hK => ?_) AllReadyH.nil
                        go_simp
                        refine hK.out _ _ (by with_reducible exact ⟨(hC).cell o22 hno, (hC).cell gx hng, (hC).cell y0 hny, (hC).cell y1 hny, (hC).cell y2 hny⟩) (fun hHeld2 => ?_)
                        clear hK K hHeld
                        have hHeld := hHeld2
                        clear hHeld2
                        try simp only [Act.put, List.setIfInBounds_toArray, List.set_cons_zero, List.set_cons_succ]
                        refine wpAnyH_ready (rs := [15]) (by kernel_rfl) (by simp) ?_
                        refine AllReadyH.cons rfl (fun K hK => ?_) AllReadyH.nil
                        have hGa := hGTb.fr0 ((Fr.refl [] _).alloc (.cells #[.int .i64 Y.kind, .string Y.text, .slice A10 Y.slots.length c10] 27))
                        have hcl := Cells.lit (w := wb) (ty := 27) (ys := [.int .i64 Y.kind, .string Y.text, .slice A10 Y.slots.length c10]) (g := wb.heap.size) rfl
                        refine step_append_g rfl (.tmp 106) (.tmp 113) _ rfl elemTrees (.slice A9 G2.length c9) (G2.flatMap encT) rfl hGa.own (some ⟨wb.heap.size, 0, none⟩) 1 1 [.int .i64 Y.kind, .string Y.text, .slice A10 Y.slots.length c10] rfl hcl rfl (Nat.le_refl _) (by simp; exact ⟨rfl, rfl, rfl⟩) hbig (by simp; omega) ?_
                        intro A11 c11 w11 ho11 hg11 hat11
                        have hC := hC.grown hg11 hrow
                        have hCV := Fr.app ((hV2.trans (hfab.mono (T := [gb]) (by simp))).alloc (.cells #[.int .i64 Y.kind, .string Y.text, .slice A10 Y.slots.length c10] 27)) hGa.own (Nat.le_refl _) hg11
                        have hGb1 := (hG2.alloc (.cells #[.int .i64 Y.kind, .string Y.text, .slice A10 Y.slots.length c10] 27)).grown hg11 (hGT.ne hgV)
                        have g0 := hGb1.cell k hgk
                        have g1 := hGb1.frozen k
                        have hRY : RH (fun j => j < wr.heap.size) (nn + 1024) wb A10 c10 Y := (hRl.sub (S' := fun j => j < wr.heap.size) fun j _ hj => by have hj : j < wr.heap.size := hj; have := hfa.size; show j < wa.heap.size; omega).mono (by omega)
                        refine hK.out _ _ (by with_reducible exact ⟨(hC).cell o22 hno, (hC).cell gx hng, (hC).cell y0 hny, (hC).cell y1 hny, (hC).cell y2 hny⟩) (fun hHeld2 => ?_)
                        clear hK K hHeld
                        have hHeld := hHeld2
                        clear hHeld2
                        try simp only [Act.put, List.setIfInBounds_toArray, List.set_cons_zero, List.set_cons_succ]
                        refine wpAnyH_take (i := 16) (v := ?_) rfl (by kernel_rfl) (by kernel_rfl) (by kernel_rfl) (fun _ _ _ h => h) (Or.inl ⟨by rfl, fun w hSw => ?_⟩) (by assumption) ?_
                        rotate_left 1
                        · (try dsimp only at hSw); go_simp; try with_reducible rfl
                        try simp only [Act.put, List.setIfInBounds_toArray, List.set_cons_zero, List.set_cons_succ]
                        refine wpAnyH_ready (rs := [17]) (by kernel_rfl) (by simp) ?_
                        refine AllReadyH.cons rfl (fun K hK => ?_) AllReadyH.nil
                        go_simp
                        have hC := hC.setCell (p := ⟨gb, k, none⟩) (.inl hgz) (.slice A11 (G2.length + 1) c11)
                        have hCV := hCV.setCell (p := ⟨gb, k, none⟩) (.inl (by simp)) (.slice A11 (G2.length + 1) c11)
                        refine hK.out _ _ (by with_reducible exact ⟨(hC).cell o22 hno, (hC).cell gx hng, (hC).cell y0 hny, (hC).cell y1 hny, (hC).cell y2 hny⟩) (fun hHeld2 => ?_)
                        clear hK K hHeld
                        have hHeld := hHeld2
                        clear hHeld2
                        try simp only [Act.put, List.setIfInBounds_toArray, List.set_cons_zero, List.set_cons_succ]
                        refine wpAnyH_done (by kernel_rfl) ?_ _
                        refine NoPanic.normal ?_
                        have hGc := (hGa.app (G2 := [((Y, A10, c10) : TreeH)]) (m := 1) (fun p hp => by
                          obtain rfl : p = ((Y, A10, c10) : TreeH) := by simpa using hp
                          exact (RH.sub hRY fun j _ hj => hGT.bad_lt (by omega) j hj).fr0 ((Fr.refl _ _).alloc _)) rfl rfl hg11 hat11 ho11).fr ((Fr.refl [gb] w11).setCell (p := ⟨gb, k, none⟩) (.inl (by simp)) (.slice A11 (G2.length + 1) c11)) (by simp; exact hgV)
                        have hBn := hGb1.set_ k (.slice A11 (G2.length + 1) c11)
                        go_wp2_with fail
                        go_roundw
                        case rel =>
                          refine ⟨m + 1, A11, c11, G2 ++ [((Y, A10, c10) : TreeH)], by omega, by go_num, by rw [hnx.out, hrx.out]; exact congrArg (Value.int .i64) (by show (st3.2 : Int) + (y.nodes : Int) = ((st3.2 + y.nodes : Nat) : Int); omega), (show _ = _ by rw [List.map_append, hG2m.out, hnx.out, hrx.out]; rfl), hGc, ?_, hCV⟩
                          rw [List.setIfInBounds_toArray, List.set_set] at hBn
                          rw [List.length_append]
                          exact hBn
                        case measure => simp [intOf]; omega
                · have hd : (mv == 0) = false := by simp [hmz]
                  have hrx : Hid (edX g (decP g L at_) s st3 y = (st3.1 ++ [], st3.2 + y.nodes)) := edX_step (nodeE_some (decP_gone hyes (by rw [HMV.out]; exact hmz)))
                  have hmz := Lib.hid hmz
                  clear hkd hyes
                  go_wp2_with fail
                  rw [HW7.out]
                  refine (Has_any D da at_ (st3.2 : Nat) _ (hat.fr0 hfw7)).mono ?_
                  rw [HIN.out]
                  rintro e w8 ⟨rfl, n8, rfl⟩
                  go_wp2_with fail
                  refine (refNodes_any nn y _ S _ ⟨A8, c8, rfl, hX.fr0 (Fr.trans hfw7 frx)⟩ (by omega)).mono ?_
                  rintro e w9 ⟨rfl, hf9⟩
                  have hf9 : Fr [] W7 w9 := Fr.trans frx hf9
                  have gb9 := hf9.cell gb7 (by simp)
                  have tb9 := hf9.cell tb70 (by simp)
                  have he9 := hf9.cell he3 (by simp)
                  have hs90 := hf9.cell hs0 (by simp)
                  have hs91 := hf9.cell hs1 (by simp)
                  have hs92 := hf9.cell hs2 (by simp)
                  have hf79 := hf7.trans hf9
                  go_wp2_with fail
                  go_roundw
                  case rel =>
                    have hf2 : Fr [] wr (w9.alloc (.cells #[.int .u8 mv, .slice A4 s.kinds.length c4, .string s.between] 55)) := hf79.alloc _
                    exact ⟨m + 1, A9, c9, G2, by omega, by go_num, by rw [hnx.out, hrx.out]; exact congrArg (Value.int .i64) (by show (st3.2 : Int) + (y.nodes : Int) = ((st3.2 + y.nodes : Nat) : Int); omega), (show _ = _ by rw [hG2m.out, hnx.out, hrx.out, List.append_nil]), hGT.fr0 hf2, hBg.fr hf2 (by simp), hfm.trans (hf2.mono (by simp))⟩
                  case measure => simp [intOf]; omega
            · obtain rfl : m = q.length := by omega
              rw [List.take_length] at hG2m
              have hrP : Hid (edP g (decP g L at_) st (s, q) = (st.1 ++ [(q.foldl (edX g (decP g L at_) s) ([], st.2)).1], (q.foldl (edX g (decP g L at_) s) ([], st.2)).2)) := rfl
              have hR2 : Hid (G2.map (·.1) = (q.foldl (edX g (decP g L at_) s) ([], st.2)).1) := hG2m
              have hRw : RowAt (Bad gb (some ⟨gb, 0, none⟩)) (nn + 1024) wr A9 c9 (G2.map (·.1)) := hGT.rowAt.sub fun j _ hj => hGR.bad_lt (by omega) j hj
              have hGn := hGR.upd (i := k) (p := ((G2.map (·.1), A9, c9) : RowH)) (mkRows_len (by rw [hGl.out]; exact hk)) hlt hfm (by
                have h := hBg
                have e : encRow ((G2.map (·.1), A9, c9) : RowH) = .slice A9 G2.length c9 := by show Value.slice A9 (G2.map (·.1)).length c9 = _; rw [List.length_map]
                rw [e]
                exact h) hRw
              have hGs : (mkRows t.slots.length G).set k ((G2.map (·.1), A9, c9) : RowH) = mkRows t.slots.length (G ++ [(G2.map (·.1), A9, c9)]) := by
                have h := mkRows_set (n := t.slots.length) (G := G) (p := ((G2.map (·.1), A9, c9) : RowH)) (by rw [hGl.out]; exact hlt)
                rw [hGl.out] at h
                exact h
              rw [hGs] at hGn
              rw [List.take_length]
              go_wp2_with fail
              go_roundw
              case rel => exact ⟨k + 1, G ++ [((G2.map (·.1), A9, c9) : RowH)], by omega, by go_num, by rw [hnk.out, hrP.out], (show _ = _ by rw [List.map_append, hGm.out, hnk.out, hrP.out, ← hR2.out]; rfl), (show _ = _ by rw [List.length_append, hGl.out]; rfl), hGn, hBg1.fr hfm (by simp; exact ne0), hB1.fr hfm (by simp; exact ne1), hB2.fr hfm (by simp; omega), hBo.fr hfm (by simp; exact ne2), hfw⟩
              case measure => simp [intOf]; omega
        · obtain rfl : k = t.slots.length := by omega
          have hall : (r.slots.zip t.slots).take t.slots.length = r.slots.zip t.slots := List.take_of_length_le (by rw [List.length_zip]; omega)
          rw [hall] at hGm
          rw [mkRows_all hGl.out] at hGR
          have hRB := hGR.rowsB
          rw [hGm.out] at hRB
          have hln : Hid (t.slots.length = ((r.slots.zip t.slots).foldl (edP g (decP g L at_)) ([], n + 1)).1.length) := by
            show _ = _
            rw [ed_rows_len, List.length_zip, ← HLEN.out, Nat.min_self]
            exact (Nat.zero_add _).symm
          rw [hall, hS2.out]
          generalize (r.slots.zip t.slots).foldl (edP g (decP g L at_)) ([], n + 1) = st at *
          have hRH : RH (fun k => k < gb) (nn + 1024 + 1) wr (some ⟨gb, 0, none⟩) t.slots.length (T.mk t.kind t.text st.1) := hRB
          have u0 := hB2.cell 0 rfl
          have u1 := hB2.cell 1 rfl
          have u2 := hB2.cell 2 rfl
          have v0 := hB2.frozen 0
          have v1 := hB2.frozen 1
          have v2 := hB2.frozen 2
          go_wp2_with fail
          refine bodyPost_ret (results_tree2 rfl _ _ (w.heap.size + 1 + 1) rfl (hB2.three _ _ _)) rfl ?_
          rw [hP.out, hln.out]
          rw [hln.out] at hRH
          refine ⟨_, _, rfl, fr_three hf (.inr (by omega)) _ _ _, ?_⟩
          exact ((hRH.fr (fr_three (S := [w.heap.size + 1 + 1]) (Fr.refl _ _) (.inl (by simp)) _ _ _) (by simp; omega)).sub fun j _ hj => by have hj : j < w.heap.size := hj; show j < gb; omega).mono (by omega)
end

/- Prune of the reference. -/
section
open Go.RowKit
theorem zeroT_dr {w w' : World} {g k : Nat} {e : Int} (hf : Fr [] w w') (hg : w.heap.size ≤ g) (n : Nat) : RetTE (n + 1) w (zeroT, e) (.returned (.tuple #[.agg #[.int .i64 0, .string emptyS, .slice none 0 0], .int .i64 e])) ((((w'.setCell ⟨g, 0, none⟩ (.int .i64 0)).setCell ⟨g, 1, none⟩ (.string emptyS)).setCell ⟨g, 2, none⟩ (.slice none 0 0)).drewN k) := by
 obtain ⟨A, c, h1, h2, h3⟩ := zeroT_ret (e := e) hf hg n
 exact ⟨A, c, h1, h2.drewN _, h3.fr0 ((Fr.refl _ _).drewN _)⟩
set_option maxRecDepth 20000 in
set_option maxHeartbeats 6400000 in
theorem refPrune_any (A D : Option Addr) (c d : Nat) (g : List Ru) (L : List Int) (n : Nat) (t : T) (v : Value) (S : Nat → Prop) (at_ : List Int) (w : World) (ha : RRu w A c g) (hL : rulesErr g = 0 → LOk g L) (ht : RT S n w v t) (hn : t.nodes ≤ 1024) (hat : Rd w (.int .i64) D d at_)
  (hPr : ∀ w', Fr [] w w' → Calls Tryz.prog 35 #[.agg #[.slice A g.length c], v] w' (RetNE w' (prunOf g L t))) :
  Calls Tryz.prog 36 #[.agg #[.slice A g.length c], v, .slice D at_.length d] w (RetTE (n + 1024) w (pruneOf g L t at_)) := by
 obtain ⟨AT, cT, rfl, hR⟩ := ht
 have hatb := hat.bound
 obtain ⟨W, hW⟩ : ∃ W, W = ((w.alloc (.cells #[.slice A g.length c] 24)).alloc (.cells (tcells t AT cT) 27)).alloc (.cells #[.int .i64 0, .string emptyS, .slice none 0 0] 27) := ⟨_, rfl⟩
 have hF : Fr [] w W := by rw [hW]; exact frx
 have hB1 : Blk W w.heap.size 24 #[.slice A g.length c] := by rw [hW]; exact ((Blk.new w _ _ _ rfl).alloc _).alloc _
 have hB2 : Blk W (w.heap.size + 1) 27 (tcells t AT cT) := by rw [hW]; exact (Blk.new _ _ _ _ (by simp)).alloc _
 have hB3 : Blk W (w.heap.size + 2) 27 #[.int .i64 0, .string emptyS, .slice none 0 0] := by rw [hW]; exact Blk.new _ _ _ _ (by simp)
 have q0 := hB1.cell 0 rfl
 have p0 := hB2.cell 0 rfl
 have p1 := hB2.cell 1 rfl
 have p2 := hB2.cell 2 rfl
 rw [hW] at q0 p0 p1 p2
 have HW := Lib.hid hW.symm
 clear hW
 go_enter Tryz.func36, Tryz.ntmps36
 go_wp2_with fail
 rw [HW.out]
 clear q0 p0 p1 p2
 refine (hPr _ hF).mono ?_
 rintro e w1 ⟨A1, c1, rfl, hf1, ho1⟩
 have hB1 := hB1.fr hf1 (by simp)
 have hB2 := hB2.fr hf1 (by simp)
 have hB3 := hB3.fr hf1 (by simp)
 have hF1 := hF.trans hf1
 clear hPr
 have hcl : (prunOf g L t).1.length ≤ 1024 := by
  unfold prunOf
  split
  ·exact Nat.zero_le _
  ·rename_i h
   obtain ⟨_, _, _, hv, _⟩ := chkT_zero (g := g) (L := L) (t := t) (by simpa using h)
   have := prunIx_le L (spotsT g t slot0 1) (spotsT g t slot0 1).length
   rw [spots_len t hv slot0 1] at this
   exact Nat.le_trans (by rw [spots_len t hv slot0 1]; exact this) hn
 have hparts : (prunOf g L t).2 = 0 → LOk g L ∧ RulesOk g ∧ g ≠ [] ∧ g.length ≤ 32 ∧ (∀ k : Nat, k < g.length → getI L k ≤ 1024) ∧ Val g t ∧ (0 : Int) ∉ (prunOf g L t).1 := by
  intro h
  have hz : chkT g L t = 0 := by
   unfold prunOf at h
   split at h
   ·exact h
   ·rename_i h1; simpa using h1
  obtain ⟨hcg, _, _, hv, hro⟩ := chkT_zero hz
  obtain ⟨hg0, hg32, hre, _⟩ := chk_zero hcg
  refine ⟨hL hre, hro, fun h => hg0 (by rw [h]; rfl), hg32, fun k hk => (chk_sz hcg hL hk).2.1, hv, ?_⟩
  rw [prunOf_ok hz]
  exact prunIx_zero _ _ _
 rcases hp : prunOf g L t with ⟨can, ev⟩
 have hperr := pruneOf_err (g := g) (L := L) (t := t) (at_ := at_)
 have hpout := fun x h => rprune_out (g := g) (L := L) (t := t) (at_ := at_) (can := can) (x := x) h
 have hplow := fun i x y h => rprune_low (g := g) (L := L) (t := t) (at_ := at_) (can := can) (i := i) (x := x) (y := y) h
 have hpok := fun h => rprune_ok (g := g) (L := L) (t := t) (at_ := at_) (can := can) h
 rw [hp] at ho1 hcl hparts hperr hpout hplow hpok
 simp only at ho1 hcl hparts hperr
 simp only [hp]
 clear hp
 by_cases hez : ev = 0
 ·subst hez
  obtain ⟨hok, hro, hne, h32, hle, hv, h0⟩ := hparts rfl
  obtain ⟨_, hcan⟩ := Rd.of_own ho1
  have hcb := hcan.bound
  have HLE := Lib.hid hle
  have H0 := Lib.hid h0
  have HNE := Lib.hid hne
  have hval := Lib.hid hv
  have HOUT := Lib.hid (fun x => hpout x rfl)
  have HLOW := Lib.hid (fun i x y => hplow i x y rfl)
  have HOK := Lib.hid (hpok rfl)
  have HLN : Hid ((L.map dnI).length = g.length) := by show _ = _; rw [List.length_map]; exact hok.sz.1
  clear hle h0 hne hparts hperr hpout hplow hpok hv
  go_wp2_with fail
  go_loopw [10] (fun i wr => ∃ k : Nat, k ≤ at_.length ∧ i = .int .i64 k ∧ Hid (∀ x ∈ at_.take k, x ∈ can) ∧ Hid (RiseTo at_ k) ∧ Fr [] w1 wr) (fun i _ => at_.length - (intOf i).toNat)
  case atStart => exact ⟨0, Nat.zero_le _, rfl, fun x hx => by simp at hx, fun i x y hi => by omega, Fr.refl _ _⟩
  case round =>
   obtain ⟨k, hk, rfl, hin, hri, hf⟩ := hrel
   have hB1 := hB1.fr hf (by simp)
   have hB2 := hB2.fr hf (by simp)
   have hB3 := hB3.fr hf (by simp)
   have hF1 := hF1.trans hf
   by_cases hlt : k < at_.length
   ·obtain ⟨b, off, x, rfl, hx, hc⟩ := hat.at_ hlt
    have hc := hF1.cell hc (by simp)
    have hcw := hcan.fr0 hf
    have hxm := List.mem_of_getElem? hx.out
    have u0 := hB3.cell 0 rfl
    have u1 := hB3.cell 1 rfl
    have u2 := hB3.cell 2 rfl
    have v0 := hB3.frozen 0
    have v1 := hB3.frozen 1
    have v2 := hB3.frozen 2
    have hin2 : Hid (x ∈ can → ∀ y ∈ at_.take (k + 1), y ∈ can) := fun hmx y hy => by
     rw [List.take_add_one, hx.out] at hy
     rcases List.mem_append.1 hy with hy | hy
     ·exact hin.out y hy
     ·obtain rfl : y = x := by simpa using hy
      exact hmx
    rcases k with _ | j
    ·rw [Nat.add_zero] at hc
     have hri2 : Hid (RiseTo at_ (0 + 1)) := hri.out.next fun x y h => by omega
     rcases hm : decide (x ∈ can) with _ | _
     ·have hE := Lib.hid (HOUT.out x hxm (by simpa using hm))
      clear hxm
      go_wp2_with fail
      go_quiet ((go_at_call 41; first | exact quiet_of (Has_any _ _ can x _ (hcw.drewN _)) | exact quiet_add (Has_any _ _ can x _ (hcw.drewN _))))
      go_wp2
      refine bodyPost_ret (results_tree2 rfl _ _ (w.heap.size + 2) rfl ((hB3.three _ _ _).drewN _)) rfl ?_
      rw [hE.out]
      exact zeroT_dr (g := w.heap.size + 2) hF1 (by omega) (n + 1023)
     ·have hin3 := Lib.hid (hin2.out (by simpa using hm))
      clear hxm u0 u1 u2 v0 v1 v2
      go_wp2_with fail
      go_quiet ((go_at_call 41; first | exact quiet_of (Has_any _ _ can x _ (hcw.drewN _)) | exact quiet_add (Has_any _ _ can x _ (hcw.drewN _))))
      go_wp2
      go_roundw
      case rel => exact ⟨0 + 1, by omega, by go_num, hin3, hri2, hf.drewN _⟩
      case measure => simp [intOf]; omega
    ·obtain ⟨b', off', z, hA', hz, hcz⟩ := hat.at_ (k := j) (by omega)
     injection hA' with hA'
     injection hA' with h5 h6
     subst h5 h6
     have hcz := hF1.cell hcz (by simp)
     by_cases hxz : x ≤ z
     ·have hE := Lib.hid (HLOW.out j z x hz.out hx.out hxz)
      have d1 : decide (x ≤ z) = true := decide_eq_true hxz
      have hxz := Lib.hid hxz
      clear hxm
      go_wp2_with fail
      go_quiet (fail)
      go_wp2
      refine bodyPost_ret (results_tree2 rfl _ _ (w.heap.size + 2) rfl ((hB3.three _ _ _).drewN _)) rfl ?_
      rw [hE.out]
      exact zeroT_dr (g := w.heap.size + 2) hF1 (by omega) (n + 1023)
     ·have d1 : decide (x ≤ z) = false := decide_eq_false hxz
      have hri2 : Hid (RiseTo at_ (j + 1 + 1)) := hri.out.next fun x' y' _ hx' hy' => by
       have h1 : at_[j]? = some x' := by simpa using hx'
       rw [hz.out] at h1
       rw [hx.out] at hy'
       obtain rfl := Option.some.inj h1
       obtain rfl := Option.some.inj hy'
       omega
      have hxz := Lib.hid hxz
      rcases hm : decide (x ∈ can) with _ | _
      ·have hE := Lib.hid (HOUT.out x hxm (by simpa using hm))
       clear hxm
       go_wp2_with fail
       go_quiet ((go_at_call 41; first | exact quiet_of (Has_any _ _ can x _ (hcw.drewN _)) | exact quiet_add (Has_any _ _ can x _ (hcw.drewN _))))
       go_wp2
       refine bodyPost_ret (results_tree2 rfl _ _ (w.heap.size + 2) rfl ((hB3.three _ _ _).drewN _)) rfl ?_
       rw [hE.out]
       exact zeroT_dr (g := w.heap.size + 2) hF1 (by omega) (n + 1023)
      ·have hin3 := Lib.hid (hin2.out (by simpa using hm))
       clear hxm u0 u1 u2 v0 v1 v2
       go_wp2_with fail
       go_quiet ((go_at_call 41; first | exact quiet_of (Has_any _ _ can x _ (hcw.drewN _)) | exact quiet_add (Has_any _ _ can x _ (hcw.drewN _))))
       go_wp2
       go_roundw
       case rel => exact ⟨j + 1 + 1, by omega, by go_num, hin3, hri2, hf.drewN _⟩
       case measure => simp [intOf]; omega
   ·obtain rfl : k = at_.length := by omega
    rw [List.take_length] at hin
    have h0a : (0 : Int) ∉ at_ := fun h => H0.out (hin.out 0 h)
    obtain ⟨X, hX⟩ : ∃ X, prunR g L at_ t 0 = X := ⟨_, rfl⟩
    have hE : Hid (pruneOf g L t at_ = (X, 0)) := by show _ = _; rw [HOK.out hri.out hin.out, prunedT_eq hval.out h0a, hX]
    have HX := Lib.hid hX
    clear hX h0a
    have q0 : wr.cell? ⟨w.heap.size, 0, none⟩ = some (.slice A g.length c) := hB1.cell 0 rfl
    have p0 : wr.cell? ⟨w.heap.size + 1, 0, none⟩ = some (.int .i64 t.kind) := hB2.cell 0 rfl
    have p1 : wr.cell? ⟨w.heap.size + 1, 1, none⟩ = some (.string t.text) := hB2.cell 1 rfl
    have p2 : wr.cell? ⟨w.heap.size + 1, 2, none⟩ = some (.slice AT t.slots.length cT) := hB2.cell 2 rfl
    go_wp2_with fail
    go_region_held3 (fun w' => w'.cell? ⟨w.heap.size, 0, none⟩ = some (.slice A g.length c) ∧ w'.cell? ⟨w.heap.size + 1, 0, none⟩ = some (.int .i64 t.kind) ∧ w'.cell? ⟨w.heap.size + 1, 1, none⟩ = some (.string t.text) ∧ w'.cell? ⟨w.heap.size + 1, 2, none⟩ = some (.slice AT t.slots.length cT))
     (first
      | with_reducible exact ⟨(fr_three hFb (.inr (by omega)) _ _ _).cell q0 (by simp), (fr_three hFb (.inr (by omega)) _ _ _).cell p0 (by simp), (fr_three hFb (.inr (by omega)) _ _ _).cell p1 (by simp), (fr_three hFb (.inr (by omega)) _ _ _).cell p2 (by simp)⟩
      | with_reducible exact ⟨(hFb.alloc _).cell q0 (by simp), (hFb.alloc _).cell p0 (by simp), (hFb.alloc _).cell p1 (by simp), (hFb.alloc _).cell p2 (by simp)⟩
      | with_reducible exact ⟨(hFb).cell q0 (by simp), (hFb).cell p0 (by simp), (hFb).cell p1 (by simp), (hFb).cell p2 (by simp)⟩
      | with_reducible exact ⟨(hFa.alloc _).cell q0 (by simp), (hFa.alloc _).cell p0 (by simp), (hFa.alloc _).cell p1 (by simp), (hFa.alloc _).cell p2 (by simp)⟩
      | with_reducible exact ⟨(hFa).cell q0 (by simp), (hFa).cell p0 (by simp), (hFa).cell p1 (by simp), (hFa).cell p2 (by simp)⟩
      | (go_keep; done))
     (first
      | (go_at_call 39; refine (calls_zd (V := wr) ?_ (fun e w' ⟨_, _, _, hf, _⟩ => hf) (refsizes_any A c g L _ (ha.fr0 (Fr.trans hF1 frx)) HNE.out h32 hok.ok hok.sz hok.pos)).mono ?_; (focus ((repeat (first | exact Fr.refl _ _ | apply Fr.drewN | apply Fr.drew | apply Fr.alloc)); done)); rintro e wa ⟨⟨A5, c5, rfl, hfa, hr5⟩, hBz⟩; rw [HLN.out]; have hFa : Fr [] wr wa := (Fr.trans frx hfa); have hza := hFa.size)
      | (go_at_call 39; refine (refsizes_any A c g L _ (ha.fr0 (Fr.trans hF1 frx)) HNE.out h32 hok.ok hok.sz hok.pos).mono ?_; rintro e wa ⟨A5, c5, rfl, hfa, hr5⟩; rw [HLN.out]; have hFa : Fr [] wr wa := (Fr.trans frx hfa); have hza := hFa.size)
      | (go_at_call 66; (with_reducible show Calls _ _ _ (World.alloc _ _) _); refine (calls_z (fun e w' ⟨_, _, _, hf, _⟩ => hf) (refpruned_any A A5 D c c5 d g hro L at_ hok HLE.out n t AT cT S 0 _ (hR.fr0 (Fr.trans hF1 (Fr.trans hFa frx))) (ha.fr0 (Fr.trans hF1 (Fr.trans hFa frx))) (hr5.fr0 frx) (hat.fr0 (Fr.trans hF1 (Fr.trans hFa frx))) hval.out (by omega))).mono ?_; rw [HX.out]; rintro e wb ⟨⟨A7, c7, rfl, hfb, hR7⟩, hBz⟩; have hFb : Fr [] wr wb := (Fr.trans hFa (Fr.trans frx hfb)); have hzb := hFb.size; have u0 := hBz.cell 0 rfl; have u1 := hBz.cell 1 rfl; have u2 := hBz.cell 2 rfl; have v0 := hBz.frozen 0; have v1 := hBz.frozen 1; have v2 := hBz.frozen 2)
      | (go_at_call 66; refine (refpruned_any A A5 D c c5 d g hro L at_ hok HLE.out n t AT cT S 0 _ (hR.fr0 (Fr.trans hF1 (Fr.trans hFa frx))) (ha.fr0 (Fr.trans hF1 (Fr.trans hFa frx))) (hr5.fr0 frx) (hat.fr0 (Fr.trans hF1 (Fr.trans hFa frx))) hval.out (by omega)).mono ?_; rw [HX.out]; rintro e wb ⟨A7, c7, rfl, hfb, hR7⟩; have hFb : Fr [] wr wb := (Fr.trans hFa (Fr.trans frx hfb)); have hzb := hFb.size; (try (have hbz := hBz.lt; have hBz := hBz.fr hfb (by simp); have u0 := hBz.cell 0 rfl; have u1 := hBz.cell 1 rfl; have u2 := hBz.cell 2 rfl; have v0 := hBz.frozen 0; have v1 := hBz.frozen 1; have v2 := hBz.frozen 2))))
    ·obtain ⟨V, hV⟩ : ∃ V, V = wb.alloc (.cells #[.int .i64 X.kind, .string X.text, .slice A7 X.slots.length c7] 27) := ⟨_, rfl⟩
     have hFV : Fr [] wr V := by rw [hV]; exact hFb.alloc _
     have hBV : Blk V wb.heap.size 27 #[.int .i64 X.kind, .string X.text, .slice A7 X.slots.length c7] := by rw [hV]; exact Blk.new _ _ _ _ rfl
     have hsz := (hF1.trans hFa).size
     have hl3 := hB3.lt
     have hRV : RH (fun k => k < w.heap.size ∨ k = w.heap.size + 2) (n + 1024) V A7 c7 X := by rw [hV]; exact (hR7.fr0 ((Fr.refl _ _).alloc _)).sub fun k _ hk => by have hk : k < w.heap.size ∨ k = w.heap.size + 2 := hk; show k < wa.heap.size; omega
     have HV := Lib.hid hV.symm
     clear hV
     rw [HV.out]
     have hB3 := hB3.fr hFV (by simp)
     have hFw := hF1.trans hFV
     have u0 := hB3.cell 0 rfl
     have u1 := hB3.cell 1 rfl
     have u2 := hB3.cell 2 rfl
     have v0 := hB3.frozen 0
     have v1 := hB3.frozen 1
     have v2 := hB3.frozen 2
     have m0 := hBV.cell 0 rfl
     have m1 := hBV.cell 1 rfl
     have m2 := hBV.cell 2 rfl
     clear q0 p0 p1 p2 hfa hfb HV
     go_wp2_with fail
     refine bodyPost_ret (results_tree2 rfl _ _ (w.heap.size + 2) rfl (hB3.three _ _ _)) rfl ?_
     rw [hE.out]
     exact ⟨A7, c7, rfl, fr_three hFw (.inr (by omega)) _ _ _, RH_far hRV⟩
    ·obtain ⟨V, hV⟩ : ∃ V, V = ((wb.setCell ⟨wa.heap.size, 0, none⟩ (.int .i64 X.kind)).setCell ⟨wa.heap.size, 1, none⟩ (.string X.text)).setCell ⟨wa.heap.size, 2, none⟩ (.slice A7 X.slots.length c7) := ⟨_, rfl⟩
     have hFV : Fr [] wr V := by rw [hV]; exact fr_three hFb (.inr (by omega)) _ _ _
     have hBV : Blk V wa.heap.size 27 #[.int .i64 X.kind, .string X.text, .slice A7 X.slots.length c7] := by rw [hV]; exact hBz.three _ _ _
     have hsz := (hF1.trans hFa).size
     have hl3 := hB3.lt
     have hRV : RH (fun k => k < w.heap.size ∨ k = w.heap.size + 2) (n + 1024) V A7 c7 X := by rw [hV]; exact (hR7.fr (Z := [wa.heap.size]) (fr_three (Fr.refl _ _) (.inl (by simp)) _ _ _) (fun k hk => by have hk : k = wa.heap.size := (by simpa using hk); subst hk; show wa.heap.size < (wa.alloc zeroO).heap.size; simp)).sub fun k _ hk => by have hk : k < w.heap.size ∨ k = w.heap.size + 2 := hk; show k < (wa.alloc zeroO).heap.size; simp; omega
     have HV := Lib.hid hV.symm
     clear hV
     rw [HV.out]
     have hB3 := hB3.fr hFV (by simp)
     have hFw := hF1.trans hFV
     have u0 := hB3.cell 0 rfl
     have u1 := hB3.cell 1 rfl
     have u2 := hB3.cell 2 rfl
     have v0 := hB3.frozen 0
     have v1 := hB3.frozen 1
     have v2 := hB3.frozen 2
     have m0 := hBV.cell 0 rfl
     have m1 := hBV.cell 1 rfl
     have m2 := hBV.cell 2 rfl
     clear q0 p0 p1 p2 hfa hfb HV
     go_wp2_with fail
     refine bodyPost_ret (results_tree2 rfl _ _ (w.heap.size + 2) rfl (hB3.three _ _ _)) rfl ?_
     rw [hE.out]
     exact ⟨A7, c7, rfl, fr_three hFw (.inr (by omega)) _ _ _, RH_far hRV⟩
    ·obtain ⟨V, hV⟩ : ∃ V, V = ((wb.setCell ⟨wr.heap.size, 0, none⟩ (.int .i64 X.kind)).setCell ⟨wr.heap.size, 1, none⟩ (.string X.text)).setCell ⟨wr.heap.size, 2, none⟩ (.slice A7 X.slots.length c7) := ⟨_, rfl⟩
     have hFV : Fr [] wr V := by rw [hV]; exact fr_three hFb (.inr (by omega)) _ _ _
     have hBV : Blk V wr.heap.size 27 #[.int .i64 X.kind, .string X.text, .slice A7 X.slots.length c7] := by rw [hV]; exact hBz.three _ _ _
     have hsz := (hF1.trans hFa).size
     have hl3 := hB3.lt
     have hRV : RH (fun k => k < w.heap.size ∨ k = w.heap.size + 2) (n + 1024) V A7 c7 X := by rw [hV]; exact (hR7.fr (Z := [wr.heap.size]) (fr_three (Fr.refl _ _) (.inl (by simp)) _ _ _) (fun k hk => by have hk : k = wr.heap.size := (by simpa using hk); subst hk; show wr.heap.size < wa.heap.size; omega)).sub fun k _ hk => by have hk : k < w.heap.size ∨ k = w.heap.size + 2 := hk; show k < wa.heap.size; omega
     have HV := Lib.hid hV.symm
     clear hV
     rw [HV.out]
     have hB3 := hB3.fr hFV (by simp)
     have hFw := hF1.trans hFV
     have u0 := hB3.cell 0 rfl
     have u1 := hB3.cell 1 rfl
     have u2 := hB3.cell 2 rfl
     have v0 := hB3.frozen 0
     have v1 := hB3.frozen 1
     have v2 := hB3.frozen 2
     have m0 := hBV.cell 0 rfl
     have m1 := hBV.cell 1 rfl
     have m2 := hBV.cell 2 rfl
     clear q0 p0 p1 p2 hfa hfb HV
     go_wp2_with fail
     refine bodyPost_ret (results_tree2 rfl _ _ (w.heap.size + 2) rfl (hB3.three _ _ _)) rfl ?_
     rw [hE.out]
     exact ⟨A7, c7, rfl, fr_three hFw (.inr (by omega)) _ _ _, RH_far hRV⟩
 ·have hE := Lib.hid (hperr hez)
  have hd : (ev != 0) = true := by simpa using hez
  have u0 := hB3.cell 0 rfl
  have u1 := hB3.cell 1 rfl
  have u2 := hB3.cell 2 rfl
  have v0 := hB3.frozen 0
  have v1 := hB3.frozen 1
  have v2 := hB3.frozen 2
  clear hpout hplow hpok hparts hperr
  go_wp2_with fail
  refine bodyPost_ret (results_tree2 rfl _ _ (w.heap.size + 2) rfl (hB3.three _ _ _)) rfl ?_
  rw [hE.out]
  exact zeroT_ret hF1 (by omega) _
end

end Go.Proofs.YtippadnbngcjlaaGreatDoor
