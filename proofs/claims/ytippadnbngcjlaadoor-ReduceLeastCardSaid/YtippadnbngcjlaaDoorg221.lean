/- Texts of this seat, one behind the other: Print, Prun, EditM, EdNode, Pru, PruE, GrowM, LeastV. -/
import Derived.Test.YtippadnbngcjlaaDoorg217
import Derived.Test.YtippadnbngcjlaaDoorg219
import Derived.Test.YtippadnbngcjlaaDoorg220
/- Print of both. -/
namespace Go.Proofs.YtippadnbngcjlaaDoor
open Go.RowKit
set_option linter.unusedVariables false

def printOf (g : List Ru) (L : List Int) (t : T) : Bs × Int := if chkT g L t ≠ 0 then ([], chkT g L t) else (textL g t, 0)
def RetSE (w : World) (r : Bs × Int) (e : Ending) (w' : World) : Prop := e = .returned (.tuple #[.string (tx r.1), .int .i64 r.2]) ∧ Fr [] w w'
theorem printOf_err {g : List Ru} {L : List Int} {t : T} (h : chkT g L t ≠ 0) : printOf g L t = ([], chkT g L t) := if_pos h
theorem printOf_ok {g : List Ru} {L : List Int} {t : T} (h : chkT g L t = 0) : printOf g L t = (textL g t, 0) := by unfold printOf; rw [if_neg (by simp [h])]
theorem chkT_zero {g : List Ru} {L : List Int} {t : T} (h : chkT g L t = 0) : chkG g L = 0 ∧ t.nodes ≤ 1024 ∧ t.depth ≤ 24 ∧ Val g t ∧ RulesOk g := by
  unfold chkT at h
  split at h
  · contradiction
  · rename_i h1
    have h1 : chkG g L = 0 := by simpa using h1
    split at h
    · omega
    · rename_i h2
      exact ⟨h1, by omega, by omega, h, rules_ok (chk_zero h1).2.2.1⟩
theorem chkT_text {g : List Ru} {L : List Int} {t : T} (h : chkT g L t = 0) : Val g t ∧ (textL g t).length ≤ 1000000 := by
  obtain ⟨_, h1, _, h2, h3⟩ := chkT_zero h
  have := text_short h3 t h2
  exact ⟨h2, by omega⟩

set_option maxRecDepth 20000 in
set_option maxHeartbeats 3200000 in
theorem Print_any (A : Option Addr) (c : Nat) (g : List Ru) (L : List Int) (n : Nat) (t : T) (v : Value) (S : Nat → Prop) (w : World) (ha : RRu w A c g) (hL : rulesErr g = 0 → LOk g L) (ht : RT S n w v t) (hn : t.nodes ≤ 1024) :
    Calls Tryd.prog 8 #[.agg #[.slice A g.length c], v] w (RetSE w (printOf g L t)) := by
  obtain ⟨AT, cT, rfl, hR⟩ := ht
  have hB1 := (Blk.new w 24 #[.slice A g.length c] _ rfl).alloc (.cells (tcells t AT cT) 27)
  have hB2 := Blk.new (w.alloc (.cells #[.slice A g.length c] 24)) 27 (tcells t AT cT) (w.heap.size + 1) (by simp)
  obtain ⟨W, hW⟩ : ∃ W, W = (w.alloc (.cells #[.slice A g.length c] 24)).alloc (.cells (tcells t AT cT) 27) := ⟨_, rfl⟩
  rw [← hW] at hB1 hB2
  have hF : Fr [] w W := by rw [hW]; exact (by repeat (first | exact Fr.refl _ _ | assumption | apply Fr.drewN | apply Fr.drew | apply Fr.alloc | refine Fr.setCell ?_ (by simp) _))
  have q0 := hB1.cell 0 rfl
  rw [hW] at q0
  have HW := Lib.hid hW.symm
  clear hW
  go_enter Tryd.func8, Tryd.ntmps8
  go_wp2_with fail
  rw [HW.out]
  clear q0
  refine (CheckTree_any A c g L n t _ S _ (ha.fr0 hF) hL ⟨AT, cT, rfl, hR.fr0 hF⟩ hn).mono ?_
  rintro e w1 ⟨rfl, hf1⟩
  have hB1 := hB1.fr hf1 (by simp)
  have hB2 := hB2.fr hf1 (by simp)
  have q0 := hB1.cell 0 rfl
  have p0 := hB2.cell 0 rfl
  have p1 := hB2.cell 1 rfl
  have p2 := hB2.cell 2 rfl
  have hF1 := hF.trans hf1
  by_cases hez : chkT g L t = 0
  · have hE := Lib.hid (printOf_ok hez)
    obtain ⟨hv, hl⟩ := chkT_text hez
    have hv := Lib.hid hv
    rw [hez]
    clear hez
    go_wp2_with fail
    refine (text_any A c g n t _ S _ (ha.fr0 hF1) ⟨AT, cT, rfl, hR.fr0 hF1⟩ hv.out hl).mono ?_
    rintro e w2 ⟨rfl, hf2⟩
    go_wp2
    go_ret2
    rw [hE.out]
    exact ⟨rfl, hF1.trans hf2⟩
  · have hE := Lib.hid (printOf_err hez)
    have hd : (chkT g L t != 0) = true := by simpa using hez
    have hez := Lib.hid hez
    generalize chkT g L t = ev at *
    go_wp2
    go_ret2
    rw [hE.out]
    exact ⟨rfl, hF1⟩

set_option maxRecDepth 20000 in
set_option maxHeartbeats 3200000 in
theorem refPrint_any (A : Option Addr) (c : Nat) (g : List Ru) (L : List Int) (n : Nat) (t : T) (v : Value) (S : Nat → Prop) (w : World) (ha : RRu w A c g) (hL : rulesErr g = 0 → LOk g L) (ht : RT S n w v t) (hn : t.nodes ≤ 1024) :
    Calls Tryd.prog 9 #[.agg #[.slice A g.length c], v] w (RetSE w (printOf g L t)) := by
  obtain ⟨AT, cT, rfl, hR⟩ := ht
  have hB1 := (Blk.new w 24 #[.slice A g.length c] _ rfl).alloc (.cells (tcells t AT cT) 27)
  have hB2 := Blk.new (w.alloc (.cells #[.slice A g.length c] 24)) 27 (tcells t AT cT) (w.heap.size + 1) (by simp)
  obtain ⟨W, hW⟩ : ∃ W, W = (w.alloc (.cells #[.slice A g.length c] 24)).alloc (.cells (tcells t AT cT) 27) := ⟨_, rfl⟩
  rw [← hW] at hB1 hB2
  have hF : Fr [] w W := by rw [hW]; exact (by repeat (first | exact Fr.refl _ _ | assumption | apply Fr.drewN | apply Fr.drew | apply Fr.alloc | refine Fr.setCell ?_ (by simp) _))
  have q0 := hB1.cell 0 rfl
  rw [hW] at q0
  have HW := Lib.hid hW.symm
  clear hW
  go_enter Tryd.func9, Tryd.ntmps9
  go_wp2_with fail
  rw [HW.out]
  clear q0
  refine (refCheckTree_any A c g L n t _ S _ (ha.fr0 hF) hL ⟨AT, cT, rfl, hR.fr0 hF⟩ (by omega)).mono ?_
  rintro e w1 ⟨rfl, hf1⟩
  have hB1 := hB1.fr hf1 (by simp)
  have hB2 := hB2.fr hf1 (by simp)
  have q0 := hB1.cell 0 rfl
  have p0 := hB2.cell 0 rfl
  have p1 := hB2.cell 1 rfl
  have p2 := hB2.cell 2 rfl
  have hF1 := hF.trans hf1
  by_cases hez : chkT g L t = 0
  · have hE := Lib.hid (printOf_ok hez)
    obtain ⟨hv, hl⟩ := chkT_text hez
    have hv := Lib.hid hv
    rw [hez]
    clear hez
    go_wp2_with fail
    refine (reftext_any A c g n t _ S _ (ha.fr0 hF1) ⟨AT, cT, rfl, hR.fr0 hF1⟩ hv.out hl).mono ?_
    rintro e w2 ⟨rfl, hf2⟩
    go_wp2
    go_ret2
    rw [hE.out]
    exact ⟨rfl, hF1.trans hf2⟩
  · have hE := Lib.hid (printOf_err hez)
    have hd : (chkT g L t != 0) = true := by simpa using hez
    have hez := Lib.hid hez
    generalize chkT g L t = ev at *
    go_wp2
    go_ret2
    rw [hE.out]
    exact ⟨rfl, hF1⟩

end Go.Proofs.YtippadnbngcjlaaDoor

/- prunable and Prunable of the program. -/
namespace Go.Proofs.YtippadnbngcjlaaDoor
open Go.RowKit
set_option linter.unusedVariables false

def prunB (L : List Int) (p : Sp) : Bool := p.slot.many != 0 || decide (getI L (lowestL L p.slot.kinds) < p.size)
/-- A slot whose kinds are there. -/
def KOk (n : Nat) (s : Sl) : Prop := s.kinds ≠ [] ∧ ∀ k ∈ s.kinds, 0 ≤ k ∧ k < n

set_option maxRecDepth 20000 in
set_option maxHeartbeats 3200000 in
theorem prunable_any (n : Nat) (A B : Option Addr) (ca cb : Nat) (C : Option Addr) (cc : Nat) (L : List Int) (p : Sp) (w : World) (hn : L.length = n) (ha : Rd w (.int .i64) A ca L) (hb : Rd w (.int .i64) B cb p.slot.kinds) (hk : KOk n p.slot) (hp : p.size ≤ 100000) :
    Calls Tryd.prog 43 #[.slice A n ca, .agg #[.int .i64 p.tree.kind, .string p.tree.text, .slice C p.tree.slots.length cc, .int .u8 p.slot.many, .slice B p.slot.kinds.length cb, .string p.slot.between, .int .i64 p.depth, .int .i64 p.size]] w (RetV w (.bool (prunB L p))) := by
  have hL1 := ha.bound
  have hk1 := hb.bound
  obtain ⟨hk0, hkr⟩ := hk
  have hlm := hkr _ (lowest_mem (L := L) hk0)
  obtain ⟨j, hj⟩ : ∃ j : Nat, lowestL L p.slot.kinds = j := ⟨(lowestL L p.slot.kinds).toNat, by omega⟩
  have hjl : j < L.length := by omega
  obtain ⟨b3, o3, y, hA, hy, hc3⟩ := ha.at_ hjl
  subst hA
  have hgy : getI L (j : Int) = y := getI_at hy.out
  have HJ := Lib.hid hj
  have HK0 := Lib.hid hk0
  have HKR := Lib.hid hkr
  have hjn : j < n := by omega
  have hjn2 : (j : Int) < (n : Int) := by omega
  obtain ⟨mv, hmv⟩ : ∃ mv, p.slot.many = mv := ⟨_, rfl⟩
  have hB : Hid (prunB L p = (mv != 0 || decide (y < p.size))) := by show _ = _; unfold prunB; rw [hmv, hj, hgy]
  rw [hmv, hB.out]
  have HN := Lib.hid hn
  have ha' := ha.alloc (.cells #[.int .i64 p.tree.kind, .string p.tree.text, .slice C p.tree.slots.length cc, .int .u8 mv, .slice B p.slot.kinds.length cb, .string p.slot.between, .int .i64 p.depth, .int .i64 p.size] 66)
  have hb' := hb.alloc (.cells #[.int .i64 p.tree.kind, .string p.tree.text, .slice C p.tree.slots.length cc, .int .u8 mv, .slice B p.slot.kinds.length cb, .string p.slot.between, .int .i64 p.depth, .int .i64 p.size] 66)
  have hc3' := fun o => ((Fr.refl [] w).alloc o).cell hc3 (by simp)
  have HLOW : Hid (∀ k, Calls Tryd.prog 57 #[.slice (some ⟨b3, o3, none⟩) n ca, .slice B p.slot.kinds.length cb] ((w.alloc (.cells #[.int .i64 p.tree.kind, .string p.tree.text, .slice C p.tree.slots.length cc, .int .u8 mv, .slice B p.slot.kinds.length cb, .string p.slot.between, .int .i64 p.depth, .int .i64 p.size] 66)).drewN k) (RetQ ((w.alloc (.cells #[.int .i64 p.tree.kind, .string p.tree.text, .slice C p.tree.slots.length cc, .int .u8 mv, .slice B p.slot.kinds.length cb, .string p.slot.between, .int .i64 p.depth, .int .i64 p.size] 66)).drewN k) (.int .i64 (j : Nat)))) := fun k => by
    have h := lowestn_any n _ B ca cb L p.slot.kinds _ HN.out (ha'.drewN k) (hb'.drewN k) HK0.out HKR.out
    rw [HJ.out] at h
    exact h
  clear hk0 hkr hj hlm hn hmv hgy
  by_cases hm : mv = 0
  · subst hm
    by_cases hlt : y < p.size
    · have hd : decide (y < (p.size : Int)) = true := by simp [hlt]
      rw [hd]
      go_enter Tryd.func43, Tryd.ntmps43
      go_wp2
      go_quiet ((go_at_call 57; first | exact quiet_of (HLOW.out _) | exact quiet_add (HLOW.out _)))
      go_wp2
      go_ret
      exact ⟨rfl, (by repeat (first | exact Fr.refl _ _ | assumption | apply Fr.drewN | apply Fr.drew | apply Fr.alloc | refine Fr.setCell ?_ (by simp) _))⟩
    · have hd : decide (y < (p.size : Int)) = false := by simp; omega
      rw [hd]
      go_enter Tryd.func43, Tryd.ntmps43
      go_wp2
      go_quiet ((go_at_call 57; first | exact quiet_of (HLOW.out _) | exact quiet_add (HLOW.out _)))
      go_wp2
      go_ret
      exact ⟨rfl, (by repeat (first | exact Fr.refl _ _ | assumption | apply Fr.drewN | apply Fr.drew | apply Fr.alloc | refine Fr.setCell ?_ (by simp) _))⟩
  · have hd : (mv != 0) = true := by simpa using hm
    rw [hd]
    go_enter Tryd.func43, Tryd.ntmps43
    go_wp2
    go_quiet (fail)
    go_wp2
    go_ret
    exact ⟨rfl, (by repeat (first | exact Fr.refl _ _ | assumption | apply Fr.drewN | apply Fr.drew | apply Fr.alloc | refine Fr.setCell ?_ (by simp) _))⟩

/-- The numbers of the nodes that can be pruned, of the first k. -/
def prunAt (L : List Int) (l : List Sp) (i : Nat) : Bool := decide (0 < i) && ((l[i]?).map (prunB L)).getD false
def prunIx (L : List Int) (l : List Sp) (k : Nat) : List Int := ((List.range k).filter (prunAt L l)).map fun (i : Nat) => (i : Int)
def slot0 : Sl := ⟨0, [], emptyS⟩
def prunOf (g : List Ru) (L : List Int) (t : T) : List Int × Int := if chkT g L t ≠ 0 then ([], chkT g L t) else (prunIx L (spotsT g t slot0 1) (spotsT g t slot0 1).length, 0)
theorem prunOf_err {g : List Ru} {L : List Int} {t : T} (h : chkT g L t ≠ 0) : prunOf g L t = ([], chkT g L t) := if_pos h
theorem prunOf_ok {g : List Ru} {L : List Int} {t : T} (h : chkT g L t = 0) : prunOf g L t = (prunIx L (spotsT g t slot0 1) (spotsT g t slot0 1).length, 0) := by unfold prunOf; rw [if_neg (by simp [h])]
theorem prunIx_yes {L : List Int} {l : List Sp} {k : Nat} (h : prunAt L l k = true) : prunIx L l (k + 1) = prunIx L l k ++ [(k : Int)] := by unfold prunIx; rw [List.range_succ]; simp [h]
theorem prunIx_no {L : List Int} {l : List Sp} {k : Nat} (h : prunAt L l k = false) : prunIx L l (k + 1) = prunIx L l k := by unfold prunIx; rw [List.range_succ]; simp [h]
theorem prunIx_le (L : List Int) (l : List Sp) (k : Nat) : (prunIx L l k).length ≤ k := by
  unfold prunIx
  rw [List.length_map]
  exact Nat.le_trans (List.length_filter_le _ _) (by simp)
theorem prunAt_zero (L : List Int) (l : List Sp) : prunAt L l 0 = false := rfl
theorem prunAt_pos {L : List Int} {l : List Sp} {k : Nat} {p : Sp} (h0 : 0 < k) (h : l[k]? = some p) : prunAt L l k = prunB L p := by simp [prunAt, h0, h]
theorem mem_row {g : List Ru} {s : Sl} {d : Int} {p : Sp} : ∀ (q : List T) (out : List Sp), p ∈ q.foldl (spotX g s d) out → p ∈ out ∨ ∃ x ∈ q, p ∈ spotsT g x s (d + 1)
  | [], _, h => .inl h
  | x :: q, out, h => by
    rcases mem_row q _ h with h | ⟨y, hy, h⟩
    · rcases List.mem_append.1 h with h | h
      · exact .inl h
      · exact .inr ⟨x, by simp, h⟩
    · exact .inr ⟨y, by simp [hy], h⟩
theorem mem_rows {g : List Ru} {d : Int} {p : Sp} : ∀ (Z : List (Sl × List T)) (out : List Sp), p ∈ Z.foldl (spotP g d) out → p ∈ out ∨ ∃ z ∈ Z, ∃ x ∈ z.2, p ∈ spotsT g x z.1 (d + 1)
  | [], _, h => .inl h
  | z :: Z, out, h => by
    rcases mem_rows Z _ h with h | ⟨y, hy, h⟩
    · rcases mem_row z.2 out h with h | ⟨x, hx, h⟩
      · exact .inl h
      · exact .inr ⟨z, by simp, x, hx, h⟩
    · exact .inr ⟨y, by simp [hy], h⟩
theorem spots_ok {g : List Ru} (hg : RulesOk g) (t : T) : Val g t → ∀ (d : Int), ∀ p ∈ restT g t d, KOk g.length p.slot ∧ p.size ≤ t.nodes := by
  induction t using T.ind with
  | h t ih =>
    intro hv d p hp
    obtain ⟨r, hr, _, hlen, _, _, hsub⟩ := val_parts hv
    obtain ⟨k, _, hk, _⟩ := ruleAt_some hr
    rw [restT_eq hr] at hp
    rcases mem_rows _ _ hp with hp | ⟨z, hz, x, hx, hp⟩
    · simp at hp
    · have hz2 : z.2 ∈ t.slots := (List.of_mem_zip hz).2
      have hz1 : z.1 ∈ r.slots := (List.of_mem_zip hz).1
      have hxv := hsub _ hz2 x hx
      obtain ⟨i, hi, hi2⟩ := List.getElem_of_mem hz2
      obtain ⟨j, hj, hj2⟩ := List.getElem_of_mem hx
      have hlt := nodes_below (t := t) (i := i) (k := j) (r := z.2) (x := x) (show Hid _ from (List.getElem?_eq_getElem hi).trans (by rw [hi2])) (show Hid _ from (List.getElem?_eq_getElem hj).trans (by rw [hj2]))
      have hsz := spots_len x hxv z.1 (d + 1)
      rw [spotsT_eq] at hp hsz
      rw [List.length_cons] at hsz
      rcases List.mem_cons.1 hp with rfl | hp
      · refine ⟨hg.kinds r (List.mem_of_getElem? hk) z.1 hz1, ?_⟩
        show 1 + (restT g x (d + 1)).length ≤ t.nodes
        omega
      · obtain ⟨h1, h2⟩ := ih _ hz2 x hx hxv (d + 1) p hp
        exact ⟨h1, by omega⟩
/-- The call returns numbers of its own, and an error. -/
def RetNE (w : World) (r : List Int × Int) (e : Ending) (w' : World) : Prop :=
  ∃ A c, e = .returned (.tuple #[.slice A r.1.length c, .int .i64 r.2]) ∧ Fr [] w w' ∧ w'.ownsRow w.heap.size 3 1 (.slice A r.1.length c) r.1.length (r.1.map (.int .i64))

set_option maxRecDepth 20000 in
set_option maxHeartbeats 3200000 in
theorem Prunable_any (A : Option Addr) (c : Nat) (g : List Ru) (L : List Int) (n : Nat) (t : T) (v : Value) (S : Nat → Prop) (w : World) (ha : RRu w A c g) (hL : rulesErr g = 0 → LOk g L) (ht : RT S n w v t) (hn : t.nodes ≤ 1024) :
    Calls Tryd.prog 19 #[.agg #[.slice A g.length c], v] w (RetNE w (prunOf g L t)) := by
  obtain ⟨AT, cT, rfl, hR⟩ := ht
  have hB1 := (Blk.new w 24 #[.slice A g.length c] _ rfl).alloc (.cells (tcells t AT cT) 27)
  have hB2 := Blk.new (w.alloc (.cells #[.slice A g.length c] 24)) 27 (tcells t AT cT) (w.heap.size + 1) (by simp)
  obtain ⟨W, hW⟩ : ∃ W, W = (w.alloc (.cells #[.slice A g.length c] 24)).alloc (.cells (tcells t AT cT) 27) := ⟨_, rfl⟩
  rw [← hW] at hB1 hB2
  have hF : Fr [] w W := by rw [hW]; exact (by repeat (first | exact Fr.refl _ _ | assumption | apply Fr.drewN | apply Fr.drew | apply Fr.alloc | refine Fr.setCell ?_ (by simp) _))
  have q0 := hB1.cell 0 rfl
  rw [hW] at q0
  have HW := Lib.hid hW.symm
  clear hW
  go_enter Tryd.func19, Tryd.ntmps19
  go_wp2_with fail
  rw [HW.out]
  clear q0
  refine (CheckTree_any A c g L n t _ S _ (ha.fr0 hF) hL ⟨AT, cT, rfl, hR.fr0 hF⟩ hn).mono ?_
  rintro e w1 ⟨rfl, hf1⟩
  have hB1 := hB1.fr hf1 (by simp)
  have hB2 := hB2.fr hf1 (by simp)
  have q0 := hB1.cell 0 rfl
  have hF1 := hF.trans hf1
  by_cases hez : chkT g L t = 0
  · have hE := Lib.hid (prunOf_ok hez)
    obtain ⟨hcg, _, _, hval, hrok⟩ := chkT_zero hez
    obtain ⟨hg0, hg32, hre, _⟩ := chk_zero hcg
    have hok := hL hre
    have hlen : Hid (L.length = g.length) := hok.sz.1
    have hne : g ≠ [] := fun h => hg0 (by rw [h]; rfl)
    have HS := Lib.hid (spotsT_eq g t slot0 1)
    have HSL := Lib.hid (spots_len t hval slot0 1)
    have HOKS := Lib.hid (spots_ok hrok t hval 1)
    have HV := Lib.hid hval
    rw [hez]
    clear hez hcg hval hrok hg0
    go_wp2_with fail
    refine (sizes_any A c g L _ (ha.fr0 hF1) hne hg32 hok.ok hok.sz hok.pos).mono ?_
    rintro e w2 ⟨A5, c5, rfl, hf2, hr5⟩
    rw [hlen.out]
    have hB1 := hB1.fr hf2 (by simp)
    have hB2 := hB2.fr hf2 (by simp)
    have q0 := hB1.cell 0 rfl
    have p0 := hB2.cell 0 rfl
    have p1 := hB2.cell 1 rfl
    have p2 := hB2.cell 2 rfl
    have hF2 := hF1.trans hf2
    go_wp2_with fail
    refine (spots_any A c g w ha w.heap.size (Nat.le_refl _) n t AT cT _ slot0 none 0 1 hF2 hF2.size ((hR.sub (S' := fun k => w.heap.size ≤ k) (fun k h1 h2 => absurd h1 (Nat.not_lt.2 h2))).fr0 hF2) (Rd.nil_ _ _) (fun a h => by cases h) HV.out hn (by omega) (by omega)).mono ?_
    rintro e w3 ⟨A6, c6, G, rfl, hf3, hGm, hG, hGo⟩
    have hGl : Hid (G.length = (spotsT g t slot0 1).length) := by show _ = _; rw [← hGm, List.length_map]
    rw [HSL.out] at hG hGl
    rw [HSL.out]
    have hGL2 : G.length ≤ 1024 := by rw [hGl.out]; exact hn
    obtain ⟨b6, off6, rfl, hcell⟩ := Cells.of_own hG (by rw [encS_len, hGl.out]; have := T.nodes_pos t; omega)
    have HCELL := Lib.hid hcell
    clear hcell
    have hr53 := hr5.fr0 hf3
    have hF3 := hF2.trans hf3
    have HGM := Lib.hid hGm
    clear hGm q0 p0 p1 p2
    go_wp2_with fail
    go_loopw [7, 24] (fun ov i wr => ∃ k : Nat, k ≤ t.nodes ∧ i = .int .i64 k ∧ GathN w3 3 (prunIx L (spotsT g t slot0 1) k) ov wr) (fun _ i _ => t.nodes - (intOf i).toNat)
    case atStart => exact ⟨0, Nat.zero_le _, rfl, GathN.start _ _ rfl⟩
    case round =>
      obtain ⟨k, hk, rfl, A7, c7, rfl, ho7, hf7⟩ := hrel
      have hpl := prunIx_le L (spotsT g t slot0 1) k
      by_cases hlt : k < t.nodes
      · obtain ⟨p, hp⟩ : ∃ p, G[k]? = some p := ⟨_, List.getElem?_eq_getElem (by rw [hGl.out]; exact hlt)⟩
        have hcl : Hid (∀ j u, (encS p)[j]? = some u → wr.cell? ⟨b6, off6 + k * 8 + j, none⟩ = some u) := fun j u hu => by
          rw [Nat.add_assoc]
          exact hf7.cell (HCELL.out _ _ (encS_at G k p hp j u hu)) (by simp)
        have f0 := hcl.out 0 _ rfl
        have f1 := hcl.out 1 _ rfl
        have f2 := hcl.out 2 _ rfl
        have f3 := hcl.out 3 _ rfl
        have f4 := hcl.out 4 _ rfl
        have f5 := hcl.out 5 _ rfl
        have f6 := hcl.out 6 _ rfl
        have f7 := hcl.out 7 _ rfl
        rw [Nat.add_zero] at f0
        have hpg : Hid ((spotsT g t slot0 1)[k]? = some p.1) := by show _ = _; rw [← HGM.out, List.getElem?_map, hp]; rfl
        have hpo := hGo p (List.mem_of_getElem? hp)
        have hkd := hpo.kinds
        obtain ⟨p, ⟨C1, cc1⟩, ⟨D1, dd1⟩⟩ := p
        simp only at f0 f1 f2 f3 f4 f5 f6 f7 hkd hpg
        clear hp hpo
        obtain ⟨W5, hW5⟩ : ∃ W, W = wr.alloc (.cells #[.int .i64 p.tree.kind, .string p.tree.text, .slice C1 p.tree.slots.length cc1, .int .u8 p.slot.many, .slice D1 p.slot.kinds.length dd1, .string p.slot.between, .int .i64 p.depth, .int .i64 p.size] 66) := ⟨_, rfl⟩
        have hf5 : Fr [] wr W5 := by rw [hW5]; exact (by repeat (first | exact Fr.refl _ _ | assumption | apply Fr.drewN | apply Fr.drew | apply Fr.alloc | refine Fr.setCell ?_ (by simp) _))
        have HW5 := Lib.hid hW5.symm
        have ho5 := own_fr ho7 hf5 (by simp)
        by_cases hk0 : 0 < k
        · have hpa := prunAt_pos (L := L) hk0 hpg.out
          have hmem : p ∈ restT g t 1 := by
            have := hpg.out
            rw [HS.out] at this
            obtain ⟨k', rfl⟩ : ∃ k', k = k' + 1 := ⟨k - 1, by omega⟩
            rw [List.getElem?_cons_succ] at this
            exact List.mem_of_getElem? this
          obtain ⟨hko, hsz⟩ := HOKS.out p hmem
          have hko := Lib.hid hko
          have hk0' := Lib.hid hk0
          rcases hpb : prunB L p with _ | _
          · rw [hpb] at hpa
            have hst := Lib.hid (prunIx_no hpa)
            have hpb := Lib.hid hpb
            clear hpa hmem
            go_wp2_with fail
            rw [HW5.out]
            refine (prunable_any g.length A5 D1 c5 dd1 C1 cc1 L p _ hlen.out (hr53.fr0 (hf7.trans hf5)) (hkd.fr0 (hf7.trans hf5)) hko.out (by omega)).mono ?_
            rw [hpb.out]
            rintro e w8 ⟨rfl, hf8⟩
            go_wp2
            go_roundw
            case rel => exact ⟨k + 1, by omega, by go_num, by rw [hst.out]; exact ⟨A7, c7, rfl, own_fr ho5 hf8 (by simp), (hf7.trans hf5).trans hf8⟩⟩
            case measure => simp [intOf]; omega
          · rw [hpb] at hpa
            have hst := Lib.hid (prunIx_yes hpa)
            have hpb := Lib.hid hpb
            clear hpa hmem
            go_wp2_with fail
            rw [HW5.out]
            refine (prunable_any g.length A5 D1 c5 dd1 C1 cc1 L p _ hlen.out (hr53.fr0 (hf7.trans hf5)) (hkd.fr0 (hf7.trans hf5)) hko.out (by omega)).mono ?_
            rw [hpb.out]
            rintro e w8 ⟨rfl, hf8⟩
            have hF8 := (hf7.trans hf5).trans hf8
            have ho8 := own_fr ho5 hf8 (by simp)
            have hz8 := hF8.size
            generalize prunIx L (spotsT g t slot0 1) k = zs at *
            go_wp2_with (at_builtin; refine wpList_append_rd rfl (.tmp 36) (.tmp 38) _ rfl elemInts (.slice A7 zs.length c7) (zs.map (.int .i64)) rfl (ho8.alloc _) (some ⟨w8.heap.size, 0, none⟩) 1 [(k : Int)] (.int .i64) rfl (Rd.one w8 _ _ _) one_i64 (by simp; omega) (by simp; omega) ?_; intro A9 c9 w9 ho9 hg9 hat9)
            go_roundw
            case rel => exact ⟨k + 1, by omega, by go_num, by rw [hst.out]; have := GathN.snoc (zs := zs ++ [(k : Int)]) (hF8.alloc _) (ho8.alloc _) hg9 ho9 (by simp); simpa using this⟩
            case measure => simp [intOf]; omega
        · have hk00 : k = 0 := by omega
          have hst := Lib.hid (prunIx_no (prunAt_zero L (spotsT g t slot0 1)))
          subst hk00
          simp only [Nat.zero_mul, Nat.add_zero] at f0 f1 f2 f3 f4 f5 f6 f7
          go_wp2
          go_roundw
          case rel => exact ⟨0 + 1, by omega, by go_num, by rw [hst.out]; exact ⟨A7, c7, rfl, ho7.alloc _, hf7.alloc _⟩⟩
          case measure => simp [intOf]; omega
      · have hkt : k = t.nodes := by omega
        subst hkt
        go_wp2
        go_ret2
        rw [hE.out, HSL.out]
        exact ⟨A7, c7, rfl, hF3.trans hf7, own_base ho7 hF3.size⟩
  · have hE := Lib.hid (prunOf_err hez)
    have hd : (chkT g L t != 0) = true := by simpa using hez
    have hez := Lib.hid hez
    generalize chkT g L t = ev at *
    go_wp2
    go_ret2
    rw [hE.out]
    exact ⟨none, 0, rfl, hF1, World.ownsRow_nil _ _ _ 1⟩
end Go.Proofs.YtippadnbngcjlaaDoor

/- A tree made of another one, by what becomes of each node: plain; the program's closure that prunes. -/
namespace Go.Proofs.YtippadnbngcjlaaDoor
open Go.RowKit
set_option linter.unusedVariables false

abbrev Dec := Nat → Sl → Option (List T)
abbrev NodeA := Sl → Nat → List T × Nat
def edStep (s : Sl) (st : List T × Nat) (f : NodeA) : List T × Nat := (st.1 ++ (f s st.2).1, (f s st.2).2)
def edRow (st : List (List T) × Nat) (p : Sl × List NodeA) : List (List T) × Nat := (st.1 ++ [(p.2.foldl (edStep p.1) ([], st.2)).1], (p.2.foldl (edStep p.1) ([], st.2)).2)
def nodeEF (g : List Ru) (dec : Dec) (t : T) (rows : List (List NodeA)) (s : Sl) (n : Nat) : List T × Nat :=
  match dec n s with
  | some l => (l, n + t.nodes)
  | none => match ruleAt g t.kind with
    | none => ([], n)
    | some r => ([.mk t.kind t.text ((r.slots.zip rows).foldl edRow ([], n + 1)).1], ((r.slots.zip rows).foldl edRow ([], n + 1)).2)
/-- What stands in the place of a node, and the number behind it. -/
def nodeE (g : List Ru) (dec : Dec) : T → NodeA := T.para (nodeEF g dec)
def edX (g : List Ru) (dec : Dec) (s : Sl) (st : List T × Nat) (x : T) : List T × Nat := (st.1 ++ (nodeE g dec x s st.2).1, (nodeE g dec x s st.2).2)
def edP (g : List Ru) (dec : Dec) (st : List (List T) × Nat) (p : Sl × List T) : List (List T) × Nat := (st.1 ++ [(p.2.foldl (edX g dec p.1) ([], st.2)).1], (p.2.foldl (edX g dec p.1) ([], st.2)).2)
section
variable {g : List Ru} {dec : Dec} {t : T} {r : Ru} {s : Sl} {n : Nat}
theorem nodeE_some {l : List T} (h : dec n s = some l) : nodeE g dec t s n = (l, n + t.nodes) := by
  unfold nodeE
  rw [T.para_eq]
  unfold nodeEF
  rw [h]
theorem nodeE_none (h : dec n s = none) (hr : ruleAt g t.kind = some r) : nodeE g dec t s n = ([.mk t.kind t.text ((r.slots.zip t.slots).foldl (edP g dec) ([], n + 1)).1], ((r.slots.zip t.slots).foldl (edP g dec) ([], n + 1)).2) := by
  have hz : ∀ (S : List Sl) (Q : List (List T)) (st : List (List T) × Nat), (S.zip (Q.map (·.map (nodeE g dec)))).foldl edRow st = (S.zip Q).foldl (edP g dec) st := by
    intro S
    induction S with
    | nil => intro Q st; rfl
    | cons s S ih =>
      intro Q st
      cases Q with
      | nil => rfl
      | cons q Q =>
        show (S.zip (Q.map (·.map (nodeE g dec)))).foldl edRow (edRow st (s, q.map (nodeE g dec))) = _
        have e : edRow st (s, q.map (nodeE g dec)) = edP g dec st (s, q) := by
          unfold edRow edP
          rw [List.foldl_map]
          rfl
        rw [ih, e]
        rfl
  conv => lhs; unfold nodeE
  rw [T.para_eq]
  show nodeEF g dec t (t.slots.map (·.map (nodeE g dec))) s n = _
  unfold nodeEF
  rw [h, hr]
  show ([T.mk t.kind t.text ((r.slots.zip (t.slots.map (·.map (nodeE g dec)))).foldl edRow ([], n + 1)).1], _) = _
  rw [hz]
end
/-- What pruned does with a node. -/
def decP (g : List Ru) (L : List Int) (at_ : List Int) : Dec := fun n s => if (n : Int) ∈ at_ then (if s.many = 0 then some [leastT g L (lowestL L s.kinds)] else some []) else none
/-- The call says what stands in the place of a node, if anything does; in new memory. -/
def RetDec (m : Nat) (w : World) (d : Option (List T)) (e : Ending) (w' : World) : Prop :=
  ∃ A c, e = .returned (.tuple #[.slice A (d.getD []).length c, .bool d.isSome]) ∧ Fr [] w w' ∧ RowAt (fun k => k < w.heap.size) m w' A c (d.getD [])

set_option maxRecDepth 20000 in
set_option maxHeartbeats 3200000 in
theorem pruned1_any (A B D E : Option Addr) (c cb cd ce b3 b5 b7 : Nat) (g : List Ru) (L at_ : List Int) (n : Nat) (s : Sl) (w : World) (ha : RRu w A c g) (hok : LOk g L) (hLr : Rd w (.int .i64) D cd L) (hat : Rd w (.int .i64) E ce at_) (hb : Rd w (.int .i64) B cb s.kinds)
    (h5 : w.cell? ⟨b5, 0, none⟩ = some (.slice E at_.length ce)) (h3 : w.cell? ⟨b3, 0, none⟩ = some (.slice A g.length c)) (h7 : w.cell? ⟨b7, 0, none⟩ = some (.slice D g.length cd))
    (hk : (n : Int) ∈ at_ → s.many = 0 → KOk g.length s ∧ getI L (lowestL L s.kinds) ≤ 1024) :
    Calls Tryd.prog 60 #[.int .i64 (n : Nat), .agg #[.int .u8 s.many, .slice B s.kinds.length cb, .string s.between], .pointer (some ⟨b5, 0, none⟩), .pointer (some ⟨b3, 0, none⟩), .pointer (some ⟨b7, 0, none⟩)] w (RetDec 1024 w (decP g L at_ n s)) := by
  have hlen : Hid (L.length = g.length) := hok.sz.1
  obtain ⟨mv, hmv⟩ : ∃ mv, s.many = mv := ⟨_, rfl⟩
  have hD : Hid (decP g L at_ n s = if (n : Int) ∈ at_ then (if mv = 0 then some [leastT g L (lowestL L s.kinds)] else some []) else none) := by show _ = _; rw [← hmv]; rfl
  rw [hmv] at hk ⊢
  clear hmv
  obtain ⟨W, hW⟩ : ∃ W, W = w.alloc (.cells #[.int .u8 mv, .slice B s.kinds.length cb, .string s.between] 52) := ⟨_, rfl⟩
  have hF : Fr [] w W := by rw [hW]; exact (by repeat (first | exact Fr.refl _ _ | assumption | apply Fr.drewN | apply Fr.drew | apply Fr.alloc | refine Fr.setCell ?_ (by simp) _))
  have hBk : Blk W w.heap.size 52 #[.int .u8 mv, .slice B s.kinds.length cb, .string s.between] := by rw [hW]; exact Blk.new _ _ _ _ rfl
  have h5W := hF.cell h5 (by simp)
  have h5' := h5W
  rw [hW] at h5'
  have HW := Lib.hid hW.symm
  clear hW
  by_cases hm : (n : Int) ∈ at_
  · by_cases hz : mv = 0
    · subst hz
      obtain ⟨⟨hk0, hkr⟩, hle⟩ := hk hm rfl
      have hlm := hkr _ (lowest_mem (L := L) hk0)
      obtain ⟨j, hj⟩ : ∃ j : Nat, lowestL L s.kinds = j := ⟨(lowestL L s.kinds).toNat, by omega⟩
      rw [hj] at hle hlm
      have hjl : j < g.length := by omega
      have hE : Hid (decP g L at_ n s = some [leastT g L (j : Int)]) := by show _ = _; rw [hD.out, if_pos hm, if_pos rfl, hj]
      obtain ⟨m, hm2⟩ : ∃ m : Nat, (getI L (j : Int)).toNat = m := ⟨_, rfl⟩
      have hT : Hid (leastT g L (j : Int) = leastF g L m (j : Int)) := by show _ = _; unfold leastT; rw [hm2]
      have HJ := Lib.hid hj
      have HK0 := Lib.hid hk0
      have HKR := Lib.hid hkr
      have hdm : decide ((n : Int) ∈ at_) = true := by simpa using hm
      have hm := Lib.hid hm
      clear hk hk0 hkr hj hD
      go_enter Tryd.func60, Tryd.ntmps60
      go_wp2_with fail
      rw [HW.out]
      clear h5'
      refine (has_any E ce at_ (n : Int) _ (hat.fr0 hF)).mono ?_
      rw [hdm]
      rintro e w1 ⟨rfl, n1, rfl⟩
      have q0 := hBk.cell 0 rfl
      have q1 := hBk.cell 1 rfl
      have h3W := hF.cell h3 (by simp)
      have h7W := hF.cell h7 (by simp)
      go_wp2_with fail
      go_region_held3 (fun w' => w'.cell? ⟨b3, 0, none⟩ = some (.slice A g.length c) ∧ w'.cell? ⟨b7, 0, none⟩ = some (.slice D g.length cd) ∧ w'.cell? ⟨w.heap.size, 1, none⟩ = some (.slice B s.kinds.length cb))
        (first
          | (go_keep; done)
          | exact ⟨hFb.cell h3W (by simp), hFb.cell h7W (by simp), hFb.cell q1 (by simp)⟩
          | exact ⟨(hFb.alloc _).cell h3W (by simp), (hFb.alloc _).cell h7W (by simp), (hFb.alloc _).cell q1 (by simp)⟩)
        (first
          | (go_at_call 57; refine (lowestn_any g.length D B cd cb L s.kinds _ hlen.out (hLr.fr0 (Fr.trans hF (by repeat (first | exact Fr.refl _ _ | assumption | apply Fr.drewN | apply Fr.drew | apply Fr.alloc | refine Fr.setCell ?_ (by simp) _)))) (hb.fr0 (Fr.trans hF (by repeat (first | exact Fr.refl _ _ | assumption | apply Fr.drewN | apply Fr.drew | apply Fr.alloc | refine Fr.setCell ?_ (by simp) _)))) HK0.out HKR.out).mono ?_; rw [HJ.out]; rintro e wa ⟨rfl, na, rfl⟩)
          | (go_at_call 31; refine (least_any A D c cd g L hok m j _ (ha.fr0 (Fr.trans hF (by repeat (first | exact Fr.refl _ _ | assumption | apply Fr.drewN | apply Fr.drew | apply Fr.alloc | refine Fr.setCell ?_ (by simp) _)))) (hLr.fr0 (Fr.trans hF (by repeat (first | exact Fr.refl _ _ | assumption | apply Fr.drewN | apply Fr.drew | apply Fr.alloc | refine Fr.setCell ?_ (by simp) _)))) hjl (by omega) (by unfold MUCH; omega)).mono ?_; rw [← hT.out]; rintro e wb ⟨A7, c7, rfl, hfb, hR7⟩; have hFb : Fr [] W wb := (Fr.trans (by repeat (first | exact Fr.refl _ _ | assumption | apply Fr.drewN | apply Fr.drew | apply Fr.alloc | refine Fr.setCell ?_ (by simp) _)) hfb)))
      have hzb := hFb.size
      have hzW := hF.size
      have hRx : RH (fun k => k < w.heap.size) m wb A7 c7 (leastT g L (j : Int)) := RH.sub (S := fun k => k < W.heap.size) hR7 fun k _ hk => Nat.lt_of_lt_of_le hk hzW
      have hRow : RowAt (fun k => k < w.heap.size) m (wb.alloc (.cells (tcells (leastT g L (j : Int)) A7 c7) 27)) (some ⟨wb.heap.size, 0, none⟩) 1 [leastT g L (j : Int)] := RowAt.one (by omega) hRx
      go_wp2_with fail
      go_ret2
      rw [hE.out]
      exact ⟨_, _, rfl, (hF.trans hFb).alloc _, RowAt.imp hRow (fun _ _ h => h) (fun _ _ _ h => h) (by omega)⟩
    · have hE : Hid (decP g L at_ n s = some []) := by show _ = _; rw [hD.out, if_pos hm, if_neg hz]
      have hdm : decide ((n : Int) ∈ at_) = true := by simpa using hm
      have hd : (mv == 0) = false := by simpa using hz
      have hm := Lib.hid hm
      have hz := Lib.hid hz
      clear hk hD
      go_enter Tryd.func60, Tryd.ntmps60
      go_wp2_with fail
      rw [HW.out]
      clear h5'
      refine (has_any E ce at_ (n : Int) _ (hat.fr0 hF)).mono ?_
      rw [hdm]
      rintro e w1 ⟨rfl, n1, rfl⟩
      have q0 := hBk.cell 0 rfl
      go_wp2
      go_ret2
      rw [hE.out]
      exact ⟨none, 0, rfl, hF.drewN _, RowAt.nil_⟩
  · have hE : Hid (decP g L at_ n s = none) := by show _ = _; rw [hD.out, if_neg hm]
    have hdm : decide ((n : Int) ∈ at_) = false := by simpa using hm
    have hm := Lib.hid hm
    clear hk hD
    go_enter Tryd.func60, Tryd.ntmps60
    go_wp2_with fail
    rw [HW.out]
    clear h5'
    refine (has_any E ce at_ (n : Int) _ (hat.fr0 hF)).mono ?_
    rw [hdm]
    rintro e w1 ⟨rfl, n1, rfl⟩
    go_wp2
    go_ret2
    rw [hE.out]
    exact ⟨none, 0, rfl, hF.drewN _, RowAt.nil_⟩
end Go.Proofs.YtippadnbngcjlaaDoor

/- node of the program's editor. -/
namespace Go.Proofs.YtippadnbngcjlaaDoor
open Go.RowKit
set_option linter.unusedVariables false

theorem ed_row_snd {g : List Ru} {dec : Dec} (s : Sl) (k : Nat) : ∀ (q : List T) (st : List T × Nat) (a : Nat), (∀ x ∈ q, ∀ s n, (nodeE g dec x s n).2 = n + x.nodes) → st.2 = k + a → (q.foldl (edX g dec s) st).2 = k + q.foldl nstN a
  | [], _, _, _, h => h
  | x :: q, st, a, hx, h => by
    refine ed_row_snd s k q _ _ (fun y hy => hx y (by simp [hy])) ?_
    have := hx x (by simp) s st.2
    simp only [edX, nstN]
    omega
theorem ed_rows_snd {g : List Ru} {dec : Dec} (k : Nat) : ∀ (S : List Sl) (Q : List (List T)) (st : List (List T) × Nat) (a : Nat), S.length = Q.length → (∀ q ∈ Q, ∀ x ∈ q, ∀ s n, (nodeE g dec x s n).2 = n + x.nodes) → st.2 = k + a → ((S.zip Q).foldl (edP g dec) st).2 = k + fold2 nstN a Q
  | [], [], _, _, _, _, h => h
  | [], _ :: _, _, _, hl, _, _ => by simp at hl
  | _ :: _, [], _, _, hl, _, _ => by simp at hl
  | s :: S, q :: Q, st, a, hl, hQ, h => by
    refine ed_rows_snd k S Q _ _ (by simpa using hl) (fun q' hq' => hQ q' (by simp [hq'])) ?_
    exact ed_row_snd s k q ([], st.2) a (hQ q (by simp)) h
theorem nodeE_snd {g : List Ru} {dec : Dec} (t : T) : Val g t → ∀ (s : Sl) (n : Nat), (nodeE g dec t s n).2 = n + t.nodes := by
  induction t using T.ind with
  | h t ih =>
    intro hv s n
    obtain ⟨r, hr, _, hlen, _, _, hsub⟩ := val_parts hv
    rcases hd : dec n s with _ | l
    · rw [nodeE_none hd hr, T.nodes_eq]
      exact ed_rows_snd n r.slots t.slots _ 1 hlen.symm (fun q hq x hx s n => ih q hq x hx (hsub q hq x hx) s n) rfl
    · rw [nodeE_some hd]
theorem nodeE_mono {g : List Ru} {dec : Dec} (t : T) : ∀ (s : Sl) (n : Nat), n ≤ (nodeE g dec t s n).2 := by
  induction t using T.ind with
  | h t ih =>
    intro s n
    rcases hd : dec n s with _ | l
    · rcases hr : ruleAt g t.kind with _ | r
      · unfold nodeE
        rw [T.para_eq]
        unfold nodeEF
        rw [hd, hr]
        exact Nat.le_refl _
      · rw [nodeE_none hd hr]
        have hrow : ∀ (s : Sl) (q : List T) (st : List T × Nat), (∀ x ∈ q, ∀ s n, n ≤ (nodeE g dec x s n).2) → st.2 ≤ (q.foldl (edX g dec s) st).2 := by
          intro s q
          induction q with
          | nil => intro st _; exact Nat.le_refl _
          | cons x q ihq =>
            intro st hx
            exact Nat.le_trans (hx x (by simp) s st.2) (ihq (edX g dec s st x) fun y hy => hx y (by simp [hy]))
        have hrows : ∀ (Z : List (Sl × List T)) (st : List (List T) × Nat), (∀ z ∈ Z, ∀ x ∈ z.2, ∀ s n, n ≤ (nodeE g dec x s n).2) → st.2 ≤ (Z.foldl (edP g dec) st).2 := by
          intro Z
          induction Z with
          | nil => intro st _; exact Nat.le_refl _
          | cons z Z ihZ =>
            intro st hz
            exact Nat.le_trans (hrow z.1 z.2 ([], st.2) (hz z (by simp))) (ihZ (edP g dec st z) fun y hy => hz y (by simp [hy]))
        have := hrows (r.slots.zip t.slots) ([], n + 1) (fun z hz x hx => ih z.2 (List.of_mem_zip hz).2 x hx)
        exact Nat.le_trans (Nat.le_succ n) this
    · rw [nodeE_some hd]
      exact Nat.le_add_right _ _
theorem edX_mono {g : List Ru} {dec : Dec} (s : Sl) (st : List T × Nat) (x : T) : st.2 ≤ (edX g dec s st x).2 := nodeE_mono x s st.2
theorem edP_mono {g : List Ru} {dec : Dec} (st : List (List T) × Nat) (p : Sl × List T) : st.2 ≤ (edP g dec st p).2 :=
  fold_inc (m := fun st : List T × Nat => st.2) (fun b x => edX_mono p.1 b x) p.2 ([], st.2)
/-- No more than one tree stands in the place of a node. -/
theorem nodeE_one {g : List Ru} {dec : Dec} (h1 : ∀ n s l, dec n s = some l → l.length ≤ 1) (t : T) (s : Sl) (n : Nat) : (nodeE g dec t s n).1.length ≤ 1 := by
  rcases hd : dec n s with _ | l
  · rcases hr : ruleAt g t.kind with _ | r
    · unfold nodeE
      rw [T.para_eq]
      unfold nodeEF
      rw [hd, hr]
      exact Nat.zero_le _
    · rw [nodeE_none hd hr]
      exact Nat.le_refl _
  · rw [nodeE_some hd]
    exact h1 n s l hd
theorem ed_row_len {g : List Ru} {dec : Dec} (h1 : ∀ n s l, dec n s = some l → l.length ≤ 1) (s : Sl) : ∀ (q : List T) (st : List T × Nat), (q.foldl (edX g dec s) st).1.length ≤ st.1.length + q.length
  | [], _ => Nat.le_refl _
  | x :: q, st => by
    have h2 := ed_row_len (g := g) h1 s q (edX g dec s st x)
    have h3 := nodeE_one (g := g) h1 x s st.2
    have h4 : (edX g dec s st x).1.length = st.1.length + (nodeE g dec x s st.2).1.length := by simp [edX]
    rw [List.foldl_cons, List.length_cons]
    omega
theorem ed_rows_len {g : List Ru} {dec : Dec} : ∀ (Z : List (Sl × List T)) (st : List (List T) × Nat), (Z.foldl (edP g dec) st).1.length = st.1.length + Z.length
  | [], _ => rfl
  | z :: Z, st => by
    rw [List.foldl_cons, ed_rows_len Z, List.length_cons]
    simp [edP]
    omega
theorem nst_len : ∀ (q : List T) (a : Nat), a + q.length ≤ q.foldl nstN a
  | [], _ => Nat.le_refl _
  | x :: q, a => by
    have h1 := nst_len q (nstN a x)
    have h2 := x.nodes_pos
    rw [List.foldl_cons, List.length_cons]
    simp only [nstN] at *
    omega
theorem row_few {t : T} {i : Nat} {q : List T} (h : Hid (t.slots[i]? = some q)) : q.length ≤ t.nodes := by
  have h1 := nodes_in h q.length
  rw [List.take_of_length_le (Nat.le_refl _)] at h1
  have h2 := nst_len q (fold2 (fun n (x : T) => n + x.nodes) 1 (t.slots.take i))
  exact Nat.le_trans (Nat.le_trans (Nat.le_add_left _ _) h2) h1
theorem fr_w0 {E : Nat} {a b c : World} (h : Fr [] a b) (k : Fr [E] b c) (hE : a.heap.size ≤ E) : Fr [] a c := h.trans2 k fun x hx => .inr (by simp at hx; omega)
theorem grown_keep {w w' : World} {A : Option Addr} {k c : Nat} (hg : w.grownBy w' (Value.slice A k c).ownBlock) {p : Addr} {u : Value} (hu : w.cell? p = some u) (hp : ∀ a, A = some a → p.block ≠ a.block) : w'.cell? p = some u :=
  grown_cell (base := 0) hg (fun hb => by
    rcases hb with hb | ⟨a, ha, hb⟩
    · omega
    · exact hp a ha hb.symm) hu
abbrev TE : TypeId := 101
/-- The call makes the nodes that stand in the place of one; the editor's number goes on. -/
def RetNode (m E : Nat) (w : World) (c0 F : Value) (r : List T × Nat) (e : Ending) (w' : World) : Prop :=
  ∃ A c, e = .returned (.slice A r.1.length c) ∧ Fr [E] w w' ∧ RowAt (fun k => k < w.heap.size) m w' A c r.1 ∧ Blk w' E TE #[c0, .int .i64 (r.2 : Nat), F]
/-- Where a closure is asked. -/
def AskOk (g : List Ru) (n : Nat) (s : Sl) : Prop := (n = 0 ∧ s = slot0) ∨ (0 < n ∧ KOk g.length s)

theorem encT_len (G : List TreeH) : (G.flatMap encT).length = G.length * 3 := by
  induction G with
  | nil => rfl
  | cons p G ih => rw [List.flatMap_cons, List.length_append, ih]; simp [encT]; omega
theorem encT_one (G : List TreeH) : ∀ u ∈ G.flatMap encT, u.oneCell' = true := fun u hu => by
  obtain ⟨p, _, hp⟩ := List.mem_flatMap.1 hu
  simp [encT] at hp
  rcases hp with rfl | rfl | rfl <;> rfl
theorem encT_from : ∀ (G : List TreeH) (j : Nat) (u : Value), (G.flatMap encT)[j]? = some u → ∃ p, G[j / 3]? = some p ∧ (encT p)[j % 3]? = some u
  | [], j, u, h => by simp at h
  | q :: G, j, u, h => by
    rw [List.flatMap_cons] at h
    by_cases hj : j < 3
    · rw [List.getElem?_append_left (by simp [encT]; exact hj)] at h
      exact ⟨q, by rw [Nat.div_eq_of_lt hj]; rfl, by rw [Nat.mod_eq_of_lt hj]; exact h⟩
    · rw [List.getElem?_append_right (by simp [encT]; omega)] at h
      obtain ⟨p, h1, h2⟩ := encT_from G (j - 3) u (by simpa [encT] using h)
      refine ⟨p, ?_, ?_⟩
      · rw [show j / 3 = (j - 3) / 3 + 1 by omega]
        exact h1
      · rw [show j % 3 = (j - 3) % 3 by omega]
        exact h2
/-- A row of trees, with the headers written out. -/
theorem RowAt.heads {S : Nat → Prop} {n : Nat} {w : World} {A : Option Addr} {c : Nat} {l : List T} (h : RowAt S n w A c l) : ∃ G : List TreeH, G.map (·.1) = l ∧ Cells w A (G.flatMap encT) ∧ ∀ p ∈ G, RH S n w p.2.1 p.2.2 p.1 := by
  rcases Nat.eq_zero_or_pos l.length with h0 | h0
  · have : l = [] := List.eq_nil_of_length_eq_zero h0
    subst this
    exact ⟨[], rfl, fun h => by simp at h, by simp⟩
  · obtain ⟨b, off, hA, _, hx⟩ := h.at0 h0
    have hex : ∀ k : Fin l.length, ∃ hd : Option Addr × Nat, w.cell? ⟨b, off + k.1 * 3, none⟩ = some (.int .i64 l[k.1].kind) ∧ w.cell? ⟨b, off + k.1 * 3 + 1, none⟩ = some (.string l[k.1].text) ∧ w.cell? ⟨b, off + k.1 * 3 + 2, none⟩ = some (.slice hd.1 l[k.1].slots.length hd.2) ∧ RH S n w hd.1 hd.2 l[k.1] := fun k => by
      obtain ⟨h1, h2, A', c', h3, h4⟩ := hx k.1 _ (List.getElem?_eq_getElem k.2)
      exact ⟨(A', c'), h1, h2, h3, h4⟩
    obtain ⟨hd, hch⟩ : ∃ hd : Fin l.length → Option Addr × Nat, ∀ k : Fin l.length, w.cell? ⟨b, off + k.1 * 3, none⟩ = some (.int .i64 l[k.1].kind) ∧ w.cell? ⟨b, off + k.1 * 3 + 1, none⟩ = some (.string l[k.1].text) ∧ w.cell? ⟨b, off + k.1 * 3 + 2, none⟩ = some (.slice (hd k).1 l[k.1].slots.length (hd k).2) ∧ RH S n w (hd k).1 (hd k).2 l[k.1] :=
      ⟨fun k => Classical.choose (hex k), fun k => Classical.choose_spec (hex k)⟩
    refine ⟨List.ofFn fun k : Fin l.length => (l[k.1], hd k), ?_, fun _ => ⟨b, off, hA, fun j u hu => ?_⟩, fun p hp => ?_⟩
    · refine List.ext_getElem (by simp) fun i h1 h2 => ?_
      simp
    · obtain ⟨p, hp, hu⟩ := encT_from _ j u hu
      have hjl : j / 3 < l.length := by
        have := (List.getElem?_eq_some_iff.1 hp).1
        simpa using this
      have hp : (l[j / 3], hd ⟨j / 3, hjl⟩) = p := by simpa [List.getElem?_ofFn, hjl] using hp
      subst hp
      obtain ⟨h1, h2, h3, _⟩ := hch ⟨j / 3, hjl⟩
      have hj : j = j / 3 * 3 + j % 3 := by omega
      rcases (by omega : j % 3 = 0 ∨ j % 3 = 1 ∨ j % 3 = 2) with e | e | e
      · rw [e] at hu hj
        have hu : Value.int .i64 l[j / 3].kind = u := by simpa [encT] using hu
        rw [← hu]
        have h1 : w.cell? ⟨b, off + j / 3 * 3, none⟩ = _ := h1
        rw [show off + j = off + j / 3 * 3 by omega]
        exact h1
      · rw [e] at hu hj
        have hu : Value.string l[j / 3].text = u := by simpa [encT] using hu
        rw [← hu]
        have h2 : w.cell? ⟨b, off + j / 3 * 3 + 1, none⟩ = _ := h2
        rw [show off + j = off + j / 3 * 3 + 1 by omega]
        exact h2
      · rw [e] at hu hj
        have hu : Value.slice (hd ⟨j / 3, hjl⟩).1 l[j / 3].slots.length (hd ⟨j / 3, hjl⟩).2 = u := by simpa [encT] using hu
        rw [← hu]
        have h3 : w.cell? ⟨b, off + j / 3 * 3 + 2, none⟩ = _ := h3
        rw [show off + j = off + j / 3 * 3 + 2 by omega]
        exact h3
    · obtain ⟨k, rfl⟩ := List.mem_ofFn.1 hp
      exact (hch k).2.2.2
theorem elemTrees : Elem Tryd.prog 55 27 (.agg #[.int .i64 0, .string ⟨#[]⟩, .slice none 0 0]) 3 48 := ⟨Tryd.underlying55, by kernel_rfl, by kernel_rfl, by omega, by omega⟩

set_option maxRecDepth 20000 in
set_option maxHeartbeats 6400000 in
theorem node_any (A : Option Addr) (c : Nat) (g : List Ru) (hg : RulesOk g) (w0 : World) (ha : RRu w0 A c g) (E : Nat) (hE : w0.heap.size ≤ E) (f : FuncId) (caps : Array Value) (hgc : ∀ (args : Array Value) (w : World), (callFunc f args).run Tryd.prog w = .ok (.enter f args) w) (m0 : Nat) (dec : Dec) (h1d : ∀ n s l, dec n s = some l → l.length ≤ 1)
    (HF : ∀ (w' : World) (n : Nat) (s : Sl) (B : Option Addr) (cb : Nat), Fr [] w0 w' → Rd w0 (.int .i64) B cb s.kinds → AskOk g n s → Calls Tryd.prog f (#[.int .i64 (n : Nat), .agg #[.int .u8 s.many, .slice B s.kinds.length cb, .string s.between]] ++ caps) w' (RetDec m0 w' (dec n s))) (nn : Nat) :
    ∀ (t : T) (AT : Option Addr) (cT : Nat) (S : Nat → Prop) (s : Sl) (B : Option Addr) (cb n : Nat) (w : World), RH S nn w0 AT cT t → Fr [] w0 w → Blk w E TE #[.slice A g.length c, .int .i64 (n : Nat), .func (.func f) #[] caps] → Rd w0 (.int .i64) B cb s.kinds → Val g t → AskOk g n s → n + t.nodes ≤ 100000 →
    Calls Tryd.prog 61 #[.pointer (some ⟨E, 0, none⟩), .agg (tcells t AT cT), .agg #[.int .u8 s.many, .slice B s.kinds.length cb, .string s.between]] w (RetNode (nn + m0) E w (.slice A g.length c) (.func (.func f) #[] caps) (nodeE g dec t s n)) := by
  induction nn with
  | zero => intro t AT cT S s B cb n w h; exact absurd h id
  | succ nn ih =>
    intro t AT cT S s B cb n w hR hf0 hBE hks hval hask hn
    have hRR := hR
    have hR : RowsB S (fun A c x => RH S nn w0 A c x) w0 AT cT t.slots := hR
    have hl1 := hR.bound
    obtain ⟨W2, hW2⟩ : ∃ W, W = (w.alloc (.cells (tcells t AT cT) 27)).alloc (.cells #[.int .u8 s.many, .slice B s.kinds.length cb, .string s.between] 52) := ⟨_, rfl⟩
    have hF2 : Fr [] w W2 := by rw [hW2]; exact (by repeat (first | exact Fr.refl _ _ | assumption | apply Fr.drewN | apply Fr.drew | apply Fr.alloc | refine Fr.setCell ?_ (by simp) _))
    have hB1 : Blk W2 w.heap.size 27 (tcells t AT cT) := by rw [hW2]; exact (Blk.new w _ _ _ rfl).alloc _
    have hB2 : Blk W2 (w.heap.size + 1) 52 #[.int .u8 s.many, .slice B s.kinds.length cb, .string s.between] := by rw [hW2]; exact Blk.new _ _ _ _ (by simp)
    have hE2 := hBE.fr hF2 (by simp)
    have hEl := hBE.lt
    have x1 := hE2.cell 1 rfl
    have x2 := hE2.cell 2 rfl
    have s0 := hB2.cell 0 rfl
    have s1 := hB2.cell 1 rfl
    have s2 := hB2.cell 2 rfl
    have x1' := x1
    rw [hW2] at x1'
    have HW2 := Lib.hid hW2.symm
    clear hW2
    go_enter Tryd.func61, Tryd.ntmps61
    go_wp2_with fail
    rw [HW2.out]
    clear x1'
    go_region_held3 (fun w' => w'.cell? ⟨E, 2, none⟩ = some (.func (.func f) #[] caps) ∧ w'.cell? ⟨w.heap.size + 1, 0, none⟩ = some (.int .u8 s.many) ∧ w'.cell? ⟨w.heap.size + 1, 1, none⟩ = some (.slice B s.kinds.length cb) ∧ w'.cell? ⟨w.heap.size + 1, 2, none⟩ = some (.string s.between))
      (first
        | (go_keep; done)
        | exact ⟨hFa.cell x2 (by simp), hFa.cell s0 (by simp), hFa.cell s1 (by simp), hFa.cell s2 (by simp)⟩)
      (first
        | (refine (HF _ n s B cb (hf0.trans (hF2.trans (by repeat (first | exact Fr.refl _ _ | assumption | apply Fr.drewN | apply Fr.drew | apply Fr.alloc | refine Fr.setCell ?_ (by simp) _)))) hks hask).mono ?_; rintro e wa ⟨A5, c5, rfl, hfa, hR5⟩; have hFa : Fr [] W2 wa := (Fr.trans (by repeat (first | exact Fr.refl _ _ | assumption | apply Fr.drewN | apply Fr.drew | apply Fr.alloc | refine Fr.setCell ?_ (by simp) _)) hfa)))
    have hEa := hE2.fr hFa (by simp)
    have hB1a := hB1.fr hFa (by simp)
    have x1 := hEa.cell 1 rfl
    have x1f := hEa.frozen 1
    have p0 := hB1a.cell 0 rfl
    have p1 := hB1a.cell 1 rfl
    have p2 := hB1a.cell 2 rfl
    have hFwa := hF2.trans hFa
    have hRa : RowAt (fun k => k < w.heap.size) m0 wa A5 c5 ((dec n s).getD []) := RowAt.sub (S := fun k => k < W2.heap.size) hR5 fun k _ hk => Nat.lt_of_lt_of_le hk hF2.size
    have hsnd := Lib.hid (nodeE_snd (g := g) (dec := dec) t hval s n)
    clear hR5
    rcases hd : dec n s with _ | l
    · rw [hd] at hRa
      have HD := Lib.hid hd
      obtain ⟨r, hru, h16, hlen, _, _, hsub⟩ := val_parts hval
      obtain ⟨kk, hkk, hgk, hkl⟩ := ruleAt_some hru
      obtain ⟨b, off, r', A1, c1, rfl, hr, e0, e1, e2, e3, hSl⟩ := ha.at_ hkl
      obtain rfl : r = r' := Option.some.inj (hgk.symm.trans hr.out)
      have hsb := hSl.bound
      have hgb := ha.bound
      have hEq := Lib.hid (nodeE_none (g := g) (t := t) (s := s) hd hru)
      have hKR := hg.kinds r (List.mem_of_getElem? hgk)
      have HKR := Lib.hid hKR
      have hfew : r.slots.length ≤ 8 := (hg.head r (List.mem_of_getElem? hgk)).2.2
      have HLEN := Lib.hid hlen
      have HSUB := Lib.hid hsub
      have HKK := Lib.hid hkk
      have HTOT : Hid (∀ i, (((r.slots.zip t.slots).take i).foldl (edP g dec) ([], n + 1)).2 ≤ n + t.nodes ∧ n + 1 ≤ (((r.slots.zip t.slots).take i).foldl (edP g dec) ([], n + 1)).2) := fun i => by
        have h1 := fold_take_le (m := fun st : List (List T) × Nat => st.2) (edP_mono (g := g) (dec := dec)) (r.slots.zip t.slots) ([], n + 1) i
        have h2 := fold_inc (m := fun st : List (List T) × Nat => st.2) (edP_mono (g := g) (dec := dec)) ((r.slots.zip t.slots).take i) ([], n + 1)
        have h3 := hsnd.out
        rw [hEq.out] at h3
        have h3 : ((r.slots.zip t.slots).foldl (edP g dec) ([], n + 1)).2 = n + t.nodes := h3
        exact ⟨by have h1 : _ ≤ ((r.slots.zip t.slots).foldl (edP g dec) ([], n + 1)).2 := h1
                  omega, h2⟩
      clear hd hru hgk hkk hsub hlen hKR
      clear p0
      have p0 : wa.cell? ⟨w.heap.size, 0, none⟩ = some (.int .i64 (kk : Int)) := by rw [← HKK.out]; exact hB1a.cell 0 rfl
      obtain ⟨W5, hW5⟩ : ∃ W, W = (wa.setCell ⟨E, 1, none⟩ (.int .i64 ((n : Int) + 1))).alloc (.cells #[.int .i64 (kk : Int), .string t.text, .slice none 0 0] 27) := ⟨_, rfl⟩
      have hFs5 : Fr [E] wa W5 := by rw [hW5]; exact ((Fr.refl _ _).setCell (.inl (by simp)) _).alloc _
      have hE5 : Blk W5 E TE #[.slice (some ⟨b, off, none⟩) g.length c, .int .i64 ((n + 1 : Nat) : Int), .func (.func f) #[] caps] := by
        rw [hW5]
        have := (hEa.set_ 1 (.int .i64 ((n : Int) + 1))).alloc (.cells #[.int .i64 (kk : Int), .string t.text, .slice none 0 0] 27)
        simpa using this
      have hwz : w.heap.size < wa.heap.size := by have := hB1a.lt; exact this
      have hB15 := hB1a.fr hFs5 (by simp; omega)
      have hBO : Blk W5 wa.heap.size 27 #[.int .i64 (kk : Int), .string t.text, .slice none 0 0] := by rw [hW5]; exact Blk.new _ _ _ _ (by simp)
      have hF5 : Fr [E] w W5 := (hFwa.mono (by simp)).trans hFs5
      have HW5 := Lib.hid hW5.symm
      have o2 := hB15.cell 2 rfl
      rw [hW5] at o2
      clear hW5
      go_wp2_with fail
      rw [HW5.out]
      clear o2 x1 x1f p0 p1 p2 hEa hB1a
      have hEo : E < wa.heap.size := Nat.lt_of_lt_of_le hEl hFwa.size
      go_loopw [56] (fun i wr => ∃ (k : Nat) (AO : Option Addr) (cO : Nat) (G : List RowH), k ≤ t.slots.length ∧ i = .int .i64 k ∧ Hid (G.map (·.1) = (((r.slots.zip t.slots).take k).foldl (edP g dec) ([], n + 1)).1) ∧ GR (nn + m0) (wa.heap.size + 1) wr AO cO G ∧
        Blk wr E TE #[.slice (some ⟨b, off, none⟩) g.length c, .int .i64 (((((r.slots.zip t.slots).take k).foldl (edP g dec) ([], n + 1)).2 : Nat) : Int), .func (.func f) #[] caps] ∧ Blk wr w.heap.size 27 (tcells t AT cT) ∧
        Blk wr wa.heap.size 27 #[.int .i64 (kk : Int), .string t.text, .slice AO G.length cO] ∧ Fr [E] w wr) (fun i _ => t.slots.length - (intOf i).toNat)
      case atStart => exact ⟨0, none, 0, [], Nat.zero_le _, rfl, rfl, GR.nil_ _ _ _, hE5, hB15, hBO, hF5⟩
      case round =>
        clear hE5 hB15 hBO hF5
        obtain ⟨k, AO, cO, G, hk, rfl, hGm, hGR, hE6, hB6, hBO, hf⟩ := hrel
        have hFW0 : Fr [] w0 wr := fr_w0 hf0 hf hE
        obtain ⟨hk1, hk2⟩ := HTOT.out k
        by_cases hlt : k < t.slots.length
        · obtain ⟨b2, off2, s', A4, c4, rfl, hs, hm, s0, s1, hks', s2⟩ := hSl.at_ (k := k) (by rw [← HLEN.out]; exact hlt)
          have hkr : k < r.slots.length := by rw [← HLEN.out]; exact hlt
          obtain ⟨b4, off4, q, A6, c6, rfl, hq, hc, hRow, hlq⟩ := hR.at_ (i := k) hlt
          have hc := hFW0.cell hc (by simp)
          have HZP := Lib.hid (fold_take (f := edP g dec) (b := ([], n + 1)) (show Hid ((r.slots.zip t.slots)[k]? = some (s', q)) from zip_at hs hq))
          have hGl : G.length ≤ k := by
            have h1 := congrArg List.length hGm.out
            rw [List.length_map, ed_rows_len, List.length_take] at h1
            have h2 : ([] : List (List T)).length = 0 := rfl
            rw [h2] at h1
            omega
          have hko : Hid (KOk g.length s') := HKR.out s' (List.mem_of_getElem? hs.out)
          obtain ⟨hk3, _⟩ := HTOT.out (k + 1)
          rw [HZP.out] at hk3
          have HQ := Lib.hid (HSUB.out q (List.mem_of_getElem? hq.out))
          have hqn := row_few hq
          generalize ((r.slots.zip t.slots).take k).foldl (edP g dec) ([], n + 1) = st at *
          obtain ⟨V, rfl⟩ : ∃ V, V = wr := ⟨wr, rfl⟩
          go_wp2_with fail
          go_loopw [13, 63] (fun v j wr => ∃ (m : Nat) (A9 : Option Addr) (c9 : Nat) (G2 : List TreeH), m ≤ q.length ∧ j = .int .i64 m ∧ v = .slice A9 G2.length c9 ∧ Hid (G2.map (·.1) = ((q.take m).foldl (edX g dec s') ([], st.2)).1) ∧ GT (nn + m0) V.heap.size wr A9 c9 G2 ∧
            Blk wr E TE #[.slice (some ⟨b, off, none⟩) g.length c, .int .i64 ((((q.take m).foldl (edX g dec s') ([], st.2)).2 : Nat) : Int), .func (.func f) #[] caps] ∧ Fr [E] V wr) (fun _ j _ => q.length - (intOf j).toNat)
          case atStart => exact ⟨0, none, 0, [], Nat.zero_le _, rfl, rfl, rfl, GT.nil_ _ _ _, hE6, Fr.refl _ _⟩
          case round =>
            clear hc
            obtain ⟨m, A9, c9, G2, hm', rfl, rfl, hG2m, hGT, hE7, hfm⟩ := hrel
            have hFW0m : Fr [] w0 wr := fr_w0 hFW0 hfm hE
            have hwr0 : E < V.heap.size := hE6.lt
            by_cases hlt2 : m < q.length
            · obtain ⟨b6, off6, x, A8, c8, rfl, hx, f0, f1, f2, hX⟩ := hRow.at_ hlt2
              have f0 := hFW0m.cell f0 (by simp)
              have f1 := hFW0m.cell f1 (by simp)
              have f2 := hFW0m.cell f2 (by simp)
              have hxv := Lib.hid (HQ.out x (List.mem_of_getElem? hx.out))
              have HXT := Lib.hid (fold_take (f := edX g dec s') (b := ([], st.2)) hx)
              have hxs := nodeE_snd (g := g) (dec := dec) x hxv.out s' (((q.take m).foldl (edX g dec s') ([], st.2)).2)
              have hx1 := nodeE_one (g := g) h1d x s' (((q.take m).foldl (edX g dec s') ([], st.2)).2)
              have hln := ed_row_len (g := g) h1d s' (q.take m) ([], st.2)
              have hmo := fold_inc (m := fun st : List T × Nat => st.2) (fun b x => edX_mono (g := g) (dec := dec) s' b x) (q.take m) ([], st.2)
              have htl := fold_take_le (m := fun st : List T × Nat => st.2) (fun b x => edX_mono (g := g) (dec := dec) s' b x) q ([], st.2) (m + 1)
              rw [HXT.out] at htl
              have htl2 : (nodeE g dec x s' (((q.take m).foldl (edX g dec s') ([], st.2)).2)).2 ≤ n + t.nodes := Nat.le_trans htl hk3
              have hmo2 : st.2 ≤ ((q.take m).foldl (edX g dec s') ([], st.2)).2 := hmo
              have hG2l : G2.length ≤ q.length := by
                have h1 := congrArg List.length hG2m.out
                rw [List.length_map] at h1
                have h2 : ((q.take m).foldl (edX g dec s') ([], st.2)).1.length ≤ 0 + (q.take m).length := hln
                rw [List.length_take] at h2
                omega
              have HXR : Hid (edX g dec s' ((q.take m).foldl (edX g dec s') ([], st.2)) x = (((q.take m).foldl (edX g dec s') ([], st.2)).1 ++ (nodeE g dec x s' (((q.take m).foldl (edX g dec s') ([], st.2)).2)).1, (nodeE g dec x s' (((q.take m).foldl (edX g dec s') ([], st.2)).2)).2)) := rfl
              clear htl hmo hln
              generalize (q.take m).foldl (edX g dec s') ([], st.2) = st3 at *
              obtain ⟨rx, hrx⟩ : ∃ rx, nodeE g dec x s' st3.2 = rx := ⟨_, rfl⟩
              rw [hrx] at HXR hxs hx1 htl2
              have hb1 : st3.2 + x.nodes ≤ 100000 := by omega
              have hb2 : 0 < st3.2 := by omega
              have hb3 : (G2.length + rx.1.length) * 48 ≤ 140737488355328 := by omega
              have HRX := Lib.hid hrx
              clear hrx hxs htl2 hmo2
              obtain ⟨W7, hW7⟩ : ∃ W, W = wr.alloc (.cells #[.int .i64 x.kind, .string x.text, .slice A8 x.slots.length c8] 27) := ⟨_, rfl⟩
              have hf7 : Fr [] wr W7 := by rw [hW7]; exact (by repeat (first | exact Fr.refl _ _ | assumption | apply Fr.drewN | apply Fr.drew | apply Fr.alloc | refine Fr.setCell ?_ (by simp) _))
              have hB7 : Blk W7 wr.heap.size 27 #[.int .i64 x.kind, .string x.text, .slice A8 x.slots.length c8] := by rw [hW7]; exact Blk.new _ _ _ _ rfl
              have hE8 := hE7.fr hf7 (by simp)
              have hGT7 := hGT.fr0 hf7
              have hB67 := (hB6.fr hfm (by simp; omega)).fr hf7 (by simp)
              have hFW7 := hFW0m.trans hf7
              have hz7 := hf7.size
              have hzm := hfm.size
              have g0 := hE8.cell 0 rfl
              have y0 := hB7.cell 0 rfl
              have y1 := hB7.cell 1 rfl
              have y2 := hB7.cell 2 rfl
              have k0 : W7.cell? ⟨w.heap.size, 0, none⟩ = some (.int .i64 (kk : Int)) := by rw [← HKK.out]; exact hB67.cell 0 rfl
              have hbl : b < w0.heap.size := World.block_lt_of_cell? w0 _ e3
              have hbE : b ≠ E := by omega
              have hb2l : b2 < w0.heap.size := World.block_lt_of_cell? w0 _ s0
              have hb2E : b2 ≠ E := by omega
              have hA9 : Hid (∀ a, A9 = some a → V.heap.size ≤ a.block ∧ a.block < wr.heap.size) := fun a h => own_block hGT.own h
              have hwV : w0.heap.size ≤ V.heap.size := hFW0.size
              have hHV : w.heap.size < V.heap.size := hB6.lt
              have e3 := hFW7.cell e3 (by simp)
              have s0 := hFW7.cell s0 (by simp)
              have s1 := hFW7.cell s1 (by simp)
              have s2 := hFW7.cell s2 (by simp)
              have HW7 := Lib.hid hW7.symm
              have hask' : AskOk g st3.2 s' := .inr ⟨hb2, hko.out⟩
              clear hW7
              go_wp2_with fail
              rw [HW7.out]
              go_region_held3 (fun w' => w'.cell? ⟨E, 0, none⟩ = some (.slice (some ⟨b, off, none⟩) g.length c) ∧ w'.cell? ⟨wr.heap.size, 0, none⟩ = some (.int .i64 x.kind) ∧ w'.cell? ⟨wr.heap.size, 1, none⟩ = some (.string x.text) ∧ w'.cell? ⟨wr.heap.size, 2, none⟩ = some (.slice A8 x.slots.length c8) ∧ w'.cell? ⟨w.heap.size, 0, none⟩ = some (.int .i64 (kk : Int)) ∧
                  w'.cell? ⟨b, off + kk * 4 + 3, none⟩ = some (.slice (some ⟨b2, off2, none⟩) r.slots.length c1) ∧ w'.cell? ⟨b2, off2 + k * 3, none⟩ = some (.int .u8 s'.many) ∧ w'.cell? ⟨b2, off2 + k * 3 + 1, none⟩ = some (.slice A4 s'.kinds.length c4) ∧ w'.cell? ⟨b2, off2 + k * 3 + 2, none⟩ = some (.string s'.between))
                (first
                  | (go_keep; done)
                  | exact ⟨hEb.cell 0 rfl, hFb.cell y0 (by simp; omega), hFb.cell y1 (by simp; omega), hFb.cell y2 (by simp; omega), hFb.cell k0 (by simp; omega), hFb.cell e3 (by simp; omega), hFb.cell s0 (by simp; omega), hFb.cell s1 (by simp; omega), hFb.cell s2 (by simp; omega)⟩
                  | exact ⟨grown_keep hg11 (hEb.cell 0 rfl) (fun a ha => by have := hA9.out a ha; show E ≠ a.block; omega), grown_keep hg11 (hFb.cell y0 (by simp; omega)) (fun a ha => by have := hA9.out a ha; show wr.heap.size ≠ a.block; omega), grown_keep hg11 (hFb.cell y1 (by simp; omega)) (fun a ha => by have := hA9.out a ha; show wr.heap.size ≠ a.block; omega), grown_keep hg11 (hFb.cell y2 (by simp; omega)) (fun a ha => by have := hA9.out a ha; show wr.heap.size ≠ a.block; omega), grown_keep hg11 (hFb.cell k0 (by simp; omega)) (fun a ha => by have := hA9.out a ha; show w.heap.size ≠ a.block; omega), grown_keep hg11 (hFb.cell e3 (by simp; omega)) (fun a ha => by have := hA9.out a ha; show b ≠ a.block; omega), grown_keep hg11 (hFb.cell s0 (by simp; omega)) (fun a ha => by have := hA9.out a ha; show b2 ≠ a.block; omega), grown_keep hg11 (hFb.cell s1 (by simp; omega)) (fun a ha => by have := hA9.out a ha; show b2 ≠ a.block; omega), grown_keep hg11 (hFb.cell s2 (by simp; omega)) (fun a ha => by have := hA9.out a ha; show b2 ≠ a.block; omega)⟩)
                (first
                  | (go_at_call 61; refine (ih x A8 c8 S s' A4 c4 st3.2 _ hX (hFW7.trans (by repeat (first | exact Fr.refl _ _ | assumption | apply Fr.drewN | apply Fr.drew | apply Fr.alloc | refine Fr.setCell ?_ (by simp) _))) (hE8.fr (by show Fr [] W7 _; exact (by repeat (first | exact Fr.refl _ _ | assumption | apply Fr.drewN | apply Fr.drew | apply Fr.alloc | refine Fr.setCell ?_ (by simp) _))) (by simp)) hks' hxv.out hask' hb1).mono ?_; rw [HRX.out]; rintro e wb ⟨A10, c10, rfl, hfb, hR10, hEb⟩; have hFb : Fr [E] W7 wb := (Fr.trans2 (S := [E]) (T := [E]) (by repeat (first | exact Fr.refl _ _ | assumption | apply Fr.drewN | apply Fr.drew | apply Fr.alloc | refine Fr.setCell ?_ (by simp) _)) hfb (fun x hx => .inl hx)); obtain ⟨G3, hG3m, hG3c, hG3r⟩ := hR10.heads; have hGTb := hGT7.fr hFb (fun k hk => (by simp at hk; omega)))
                  | (refine step_append_g rfl (.tmp 67) (.tmp 83) _ rfl elemTrees (.slice A9 G2.length c9) (G2.flatMap encT) rfl hGTb.own A10 rx.1.length c10 (G3.flatMap encT) rfl hG3c (by rw [encT_len, ← hG3m, List.length_map]) hR10.le (encT_one _) hb3 (by have := hFb.size; omega) ?_; intro A11 c11 w11 ho11 hg11 hat11))
              have hl3 : rx.1.length = G3.length := by rw [← hG3m, List.length_map]
              have hGc := hGTb.app (m := rx.1.length) (fun p hp => RH.sub (hG3r p hp) fun k _ hk => hGT7.bad_lt (by omega) k hk) rfl hl3 hg11 hat11 ho11
              have hFm : Fr [E] V w11 := Fr.app ((hfm.trans (hf7.mono (by simp))).trans hFb) hGTb.own (Nat.le_refl _) hg11
              have hEm := hEb.grown hg11 (hGTb.ne hwr0)
              go_wp2_with fail
              go_roundw
              case rel =>
                iterate 25 apply Exists.intro
                refine ⟨⟨m + 1, A11, c11, G2 ++ G3, by omega, by go_num, by rw [List.length_append, ← hl3], (show _ = _ by rw [List.map_append, hG2m.out, hG3m, HXT.out, HXR.out]), hGc, (by rw [HXT.out, HXR.out]; exact hEm), hFm⟩, rfl⟩
              case measure => simp [intOf]; omega
            · obtain rfl : m = q.length := by omega
              rw [List.take_length] at hG2m hE7
              have hEP : Hid (edP g dec st (s', q) = (st.1 ++ [(q.foldl (edX g dec s') ([], st.2)).1], (q.foldl (edX g dec s') ([], st.2)).2)) := rfl
              generalize q.foldl (edX g dec s') ([], st.2) = st3 at *
              have hzV := hBO.lt
              have hzm := hfm.size
              have hEw := hE7.lt
              have hGR8 := hGR.fr hfm (fun k hk => by obtain rfl : k = E := by simpa using hk
                                                      omega)
              have hB68 := hB6.fr hfm (by simp; omega)
              have hBO8 := hBO.fr hfm (by simp; omega)
              have hRw : RowAt (Bad (wa.heap.size + 1) AO) (nn + m0) wr A9 c9 (G2.map (·.1)) := hGT.rowAt.sub fun j _ hj => hGR.bad_lt (by omega) j hj
              obtain ⟨R, hR9⟩ : ∃ R, G2.map (·.1) = R := ⟨_, rfl⟩
              have hRl : G2.length = R.length := by rw [← hR9, List.length_map]
              rw [hR9] at hRw hG2m
              have p2 := hBO8.cell 2 rfl
              have p26 := (hBO8.alloc (.cells #[.slice A9 R.length c9] 55)).cell 2 rfl
              rw [hRl]
              clear hRl
              go_wp2_with (at_builtin; go_loud (refine wpList_append_rd rfl (.tmp 87) (.tmp 89) _ rfl elemRows (.slice AO G.length cO) (G.map encRow) rfl (hGR8.own.alloc _) (some ⟨_, 0, none⟩) 1 [((R, A9, c9) : RowH)] encRow rfl (Rd.one wr _ encRow ((R, A9, c9) : RowH)) one_row (by simp; omega) (by simp; omega) ?_; intro A7 c7 w7 ho7 hg7 hat7; have hB37 := (hBO8.alloc _).grown hg7 (hGR8.ne (by omega)); have r2 := hB37.cell 2 rfl; have r3 := hB37.frozen 2))
              have hGa := hGR8.fr0 ((Fr.refl [] _).alloc (.cells #[encRow ((R, A9, c9) : RowH)] 55))
              have hGb := (hGa.snoc (p := ((R, A9, c9) : RowH)) (RowAt.fr hRw (Z := []) ((Fr.refl _ _).alloc _) (by simp)) rfl hg7 hat7 ho7).fr ((Fr.refl [wa.heap.size] w7).setCell (p := ⟨wa.heap.size, 2, none⟩) (.inl (by simp)) (.slice A7 (G.length + 1) c7)) (by simp)
              go_roundw
              case rel =>
                iterate 41 apply Exists.intro
                refine ⟨⟨k + 1, A7, c7, G ++ [((R, A9, c9) : RowH)], by omega, by go_num, ?_, hGb, ?_, ((hB68.alloc _).grown hg7 (hGR8.ne (by omega))).far (by show w.heap.size ≠ wa.heap.size; omega) _, ?_, (Fr.app ((hf.trans hfm).alloc _) hGa.own (by omega) hg7).setCell (.inr (by show w.heap.size ≤ wa.heap.size; omega)) _⟩, rfl⟩
                · show _ = _
                  rw [List.map_append, hGm.out, HZP.out, hEP.out, ← hG2m.out]
                  rfl
                · rw [HZP.out, hEP.out]
                  exact ((hE7.alloc _).grown hg7 (hGR8.ne (by omega))).far (by show E ≠ wa.heap.size; omega) _
                · have := hB37.set_ 2 (.slice A7 (G.length + 1) c7)
                  simpa using this
              case measure => simp [intOf]; omega
        · obtain rfl : k = t.slots.length := by omega
          have hall : (r.slots.zip t.slots).take t.slots.length = r.slots.zip t.slots := List.take_of_length_le (by rw [List.length_zip]; omega)
          rw [hall] at hGm hE6
          clear hall hk1 hk2
          obtain ⟨rows, hrows⟩ : ∃ x, (r.slots.zip t.slots).foldl (edP g dec) ([], n + 1) = x := ⟨_, rfl⟩
          rw [hrows] at hGm hE6
          have hEq2 : Hid (nodeE g dec t s n = ([T.mk t.kind t.text rows.1], rows.2)) := by show _ = _; rw [hEq.out, hrows]
          have hGle : Hid (G.length = rows.1.length) := by show _ = _; rw [← hGm.out, List.length_map]
          have hRB := hGR.rowsB
          rw [hGm.out] at hRB
          have hRH : RH (fun k => k < wa.heap.size + 1) (nn + m0 + 1) wr AO cO (T.mk t.kind t.text rows.1) := hRB
          have hzw := hBO.lt
          have hOne : RowAt (fun k => k < w.heap.size) (nn + m0 + 1) (wr.alloc (.cells #[.int .i64 (kk : Int), .string t.text, .slice AO G.length cO] 27)) (some ⟨wr.heap.size, 0, none⟩) 1 [T.mk t.kind t.text rows.1] := by
            have h1 := RowAt.one (e := 27) (S := fun k => k < w.heap.size) (by show ¬ wr.heap.size < w.heap.size; omega) (RH.sub (S' := fun k => k < w.heap.size) hRH fun k _ hk => by have hk : k < w.heap.size := hk; show k < wa.heap.size + 1; omega)
            rw [hGle.out, ← HKK.out]
            exact h1
          have hOne := RowAt.imp hOne (fun _ _ h => h) (fun _ _ _ h => h) (show nn + m0 + 1 ≤ nn + 1 + m0 by omega)
          have o0 := hBO.cell 0 rfl
          have o1 := hBO.cell 1 rfl
          have o2 := hBO.cell 2 rfl
          clear hrows hRB hRH
          go_wp2_with fail
          go_ret
          rw [hEq2.out]
          exact ⟨_, _, rfl, hf.alloc _, hOne, hE6.alloc _⟩
    · rw [hd] at hRa
      have hEq := Lib.hid (nodeE_some (g := g) (t := t) hd)
      clear hd
      have hwr : Hid (IntKind.i64.wrap ((n : Int) + (t.nodes : Int)) = ((n + t.nodes : Nat) : Int)) := by show _ = _; rw [IntWalk.i64_in _ (by omega)]; omega
      go_wp2_with fail
      go_region_with (first
          | (go_at_call 17; refine (Nodes_any (nn + 1) t _ S _ ⟨AT, cT, rfl, hRR.fr0 (hf0.trans (hFwa.trans (by repeat (first | exact Fr.refl _ _ | assumption | apply Fr.drewN | apply Fr.drew | apply Fr.alloc | refine Fr.setCell ?_ (by simp) _))))⟩ (by omega)).mono ?_; rintro e wb ⟨rfl, hfb⟩; have hFb : Fr [] wa wb := (Fr.trans (by repeat (first | exact Fr.refl _ _ | assumption | apply Fr.drewN | apply Fr.drew | apply Fr.alloc | refine Fr.setCell ?_ (by simp) _)) hfb); have z1 := (hEa.fr hFb (by simp)).cell 1 rfl; have z2 := (hEa.fr hFb (by simp)).frozen 1; have hFs := fun v => Fr.setCell (S := [E]) (p := ⟨E, 1, none⟩) (hFb.mono (by simp)) (.inl (by simp)) v))
      all_goals
        rw [hwr.out]
        have hFin := hFs (.int .i64 ((n + t.nodes : Nat) : Int))
        have hEn := (hEa.fr hFb (by simp)).set_ 1 (.int .i64 ((n + t.nodes : Nat) : Int))
        have hRn := RowAt.imp (RowAt.fr hRa hFin (fun k hk => by obtain rfl : k = E := by simpa using hk
                                                                 exact hEl)) (fun _ _ h => h) (fun _ _ _ h => h) (show m0 ≤ nn + 1 + m0 by omega)
        have hFtot := (hFwa.mono (T := [E]) (by simp)).trans hFin
        generalize wb.setCell ⟨E, 1, none⟩ (.int .i64 ((n + t.nodes : Nat) : Int)) = W9 at *
        go_wp2_with fail
        go_ret
        rw [hEq.out]
        exact ⟨A5, c5, rfl, hFtot, hRn, by simpa using hEn⟩
end Go.Proofs.YtippadnbngcjlaaDoor

/- pruned of the program. -/
namespace Go.Proofs.YtippadnbngcjlaaDoor
open Go.RowKit
set_option linter.unusedVariables false

/-- A tree without some nodes. -/
def prunedT (g : List Ru) (L at_ : List Int) (t : T) : T := ((nodeE g (decP g L at_) t slot0 0).1.head?).getD t
theorem decP_zero {g : List Ru} {L at_ : List Int} {s : Sl} (h0 : (0 : Int) ∉ at_) : decP g L at_ 0 s = none := by
  unfold decP
  rw [if_neg (by simpa using h0)]
theorem decP_one {g : List Ru} {L at_ : List Int} (n : Nat) (s : Sl) (l : List T) (h : decP g L at_ n s = some l) : l.length ≤ 1 := by
  unfold decP at h
  split at h
  · split at h
    · obtain rfl := Option.some.inj h; exact Nat.le_refl _
    · obtain rfl := Option.some.inj h; exact Nat.zero_le _
  · cases h
theorem prunedT_one {g : List Ru} {L at_ : List Int} {t : T} (h0 : (0 : Int) ∉ at_) (hv : Val g t) : nodeE g (decP g L at_) t slot0 0 = ([prunedT g L at_ t], t.nodes) := by
  obtain ⟨r, hr, _⟩ := val_parts hv
  have h1 := nodeE_snd (g := g) (dec := decP g L at_) t hv slot0 0
  have h2 := nodeE_none (g := g) (t := t) (decP_zero (g := g) (L := L) (s := slot0) h0) hr
  refine Prod.ext ?_ (by rw [h1]; exact Nat.zero_add _)
  unfold prunedT
  rw [h2]
  rfl

set_option maxRecDepth 20000 in
set_option maxHeartbeats 3200000 in
theorem pruned_any (A D AT : Option Addr) (c d cT : Nat) (g : List Ru) (L at_ : List Int) (nn : Nat) (t : T) (S : Nat → Prop) (w : World) (ha : RRu w A c g) (hok : LOk g L) (hro : RulesOk g) (hne : g ≠ []) (h32 : g.length ≤ 32) (hle : ∀ k : Nat, k < g.length → getI L k ≤ 1024) (hat : Rd w (.int .i64) D d at_)
    (h0 : (0 : Int) ∉ at_) (hval : Val g t) (hn : t.nodes ≤ 1024) (hR : RH S nn w AT cT t) :
    Calls Tryd.prog 48 #[.agg #[.slice A g.length c], .agg (tcells t AT cT), .slice D at_.length d] w (RetT (nn + 1024) w (prunedT g L at_ t)) := by
  have hlen : Hid (L.length = g.length) := hok.sz.1
  obtain ⟨W, hW⟩ : ∃ W, W = (((w.alloc (.cells #[.slice A g.length c] 24)).alloc (.cells (tcells t AT cT) 27)).alloc (.cells #[.slice D at_.length d] 40)).alloc (.cells #[.int .i64 0, .string emptyS, .slice none 0 0] 27) := ⟨_, rfl⟩
  have hF : Fr [] w W := by rw [hW]; exact (by repeat (first | exact Fr.refl _ _ | assumption | apply Fr.drewN | apply Fr.drew | apply Fr.alloc | refine Fr.setCell ?_ (by simp) _))
  have hB1 : Blk W w.heap.size 24 #[.slice A g.length c] := by rw [hW]; exact (((Blk.new w _ _ _ rfl).alloc _).alloc _).alloc _
  have hB2 : Blk W (w.heap.size + 1) 27 (tcells t AT cT) := by rw [hW]; exact ((Blk.new _ _ _ _ (by simp)).alloc _).alloc _
  have hB3 : Blk W (w.heap.size + 2) 40 #[.slice D at_.length d] := by rw [hW]; exact (Blk.new _ _ _ _ (by simp)).alloc _
  have hB4 : Blk W (w.heap.size + 3) 27 #[.int .i64 0, .string emptyS, .slice none 0 0] := by rw [hW]; exact Blk.new _ _ _ _ (by simp)
  have q0 := hB1.cell 0 rfl
  rw [hW] at q0
  have HW := Lib.hid hW.symm
  clear hW
  go_enter Tryd.func48, Tryd.ntmps48
  go_wp2_with fail
  rw [HW.out]
  clear q0
  refine (sizes_any A c g L _ (ha.fr0 hF) hne h32 hok.ok hok.sz hok.pos).mono ?_
  rintro e w1 ⟨A5, c5, rfl, hf1, hr5⟩
  rw [hlen.out]
  obtain ⟨W1, hW1⟩ : ∃ W1, W1 = w1.alloc (.cells #[.slice A5 g.length c5] 40) := ⟨_, rfl⟩
  have hf2 : Fr [] W W1 := by rw [hW1]; exact hf1.alloc _
  have hB5 : Blk W1 w1.heap.size 40 #[.slice A5 g.length c5] := by rw [hW1]; exact Blk.new _ _ _ _ rfl
  have hr6 : Rd W1 (.int .i64) A5 c5 L := by rw [hW1]; exact hr5.alloc _
  have hS1 : Hid (W1.heap.size = w1.heap.size + 1) := by show _ = _; rw [hW1]; simp
  have hB1 := hB1.fr hf2 (by simp)
  have hB2 := hB2.fr hf2 (by simp)
  have hB3 := hB3.fr hf2 (by simp)
  have hB4 := hB4.fr hf2 (by simp)
  obtain ⟨W2, hW2⟩ : ∃ W2, W2 = W1.alloc (.cells #[.slice A g.length c, .int .i64 0, .func (.func 60) #[] #[.pointer (some ⟨w.heap.size + 1 + 1, 0, none⟩), .pointer (some ⟨w.heap.size, 0, none⟩), .pointer (some ⟨w1.heap.size, 0, none⟩)]] TE) := ⟨_, rfl⟩
  have hf3 : Fr [] W1 W2 := by rw [hW2]; exact (by repeat (first | exact Fr.refl _ _ | assumption | apply Fr.drewN | apply Fr.drew | apply Fr.alloc | refine Fr.setCell ?_ (by simp) _))
  have hBE : Blk W2 W1.heap.size TE #[.slice A g.length c, .int .i64 ((0 : Nat) : Int), .func (.func 60) #[] #[.pointer (some ⟨w.heap.size + 1 + 1, 0, none⟩), .pointer (some ⟨w.heap.size, 0, none⟩), .pointer (some ⟨w1.heap.size, 0, none⟩)]] := by rw [hW2]; exact Blk.new _ _ _ _ rfl
  have y0 := (hB2.fr hf3 (by simp)).cell 0 rfl
  have y1 := (hB2.fr hf3 (by simp)).cell 1 rfl
  have y2 := (hB2.fr hf3 (by simp)).cell 2 rfl
  have q0 := hB1.cell 0 rfl
  rw [hW2, hW1] at y0 y1 y2
  rw [hW1] at q0
  have HW1 := Lib.hid hW1.symm
  have HW2 := Lib.hid hW2.symm
  clear hW1 hW2
  have hFW1 : Fr [] w W1 := hF.trans hf2
  have g1 := hB1.cell 0 rfl
  have g3 := hB3.cell 0 rfl
  have g5 := hB5.cell 0 rfl
  have HF : ∀ (w' : World) (n : Nat) (s : Sl) (B : Option Addr) (cb : Nat), Fr [] W1 w' → Rd W1 (.int .i64) B cb s.kinds → AskOk g n s → Calls Tryd.prog 60 (#[.int .i64 (n : Nat), .agg #[.int .u8 s.many, .slice B s.kinds.length cb, .string s.between]] ++ #[.pointer (some ⟨w.heap.size + 1 + 1, 0, none⟩), .pointer (some ⟨w.heap.size, 0, none⟩), .pointer (some ⟨w1.heap.size, 0, none⟩)]) w' (RetDec 1024 w' (decP g L at_ n s)) := by
    intro w' n s B cb hfw hRB hask
    refine pruned1_any A B A5 D c cb c5 d w.heap.size (w.heap.size + 1 + 1) w1.heap.size g L at_ n s w' (ha.fr0 (hFW1.trans hfw)) hok (hr6.fr0 hfw) (hat.fr0 (hFW1.trans hfw)) (hRB.fr0 hfw) (hfw.cell g3 (by simp)) (hfw.cell g1 (by simp)) (hfw.cell g5 (by simp)) fun hm _ => ?_
    rcases hask with ⟨rfl, _⟩ | ⟨_, hko⟩
    · exact absurd hm h0
    · have hlm := hko.2 _ (lowest_mem (L := L) hko.1)
      obtain ⟨j, hj⟩ : ∃ j : Nat, lowestL L s.kinds = j := ⟨(lowestL L s.kinds).toNat, by omega⟩
      rw [hj] at hlm ⊢
      exact ⟨hko, hle j (by omega)⟩
  have hC := node_any A c g hro W1 (ha.fr0 hFW1) W1.heap.size (Nat.le_refl _) 60 _ (fun _ _ => rfl) 1024 (decP g L at_) decP_one HF nn t AT cT S slot0 none 0 0 W2 (hR.fr0 hFW1) hf3 hBE (Rd.nil_ _ _) hval (.inl ⟨rfl, rfl⟩) (by omega)
  rw [prunedT_one h0 hval] at hC
  have HC := Lib.hid hC
  clear hC HF hle h0
  go_wp2_with fail
  rw [HW1.out, ← hS1.out, HW2.out]
  clear y0 y1 y2 q0
  refine HC.out.mono ?_
  rintro e w4 ⟨A7, c7, rfl, hf4, hR7, _⟩
  obtain ⟨b, off, x, A8, c8, rfl, hx, e0, e1, e2, hRx⟩ := hR7.at_ (k := 0) (by simp)
  obtain rfl : prunedT g L at_ t = x := by simpa using hx.out
  have hz3 := hf3.size
  have hzW1 := hf2.size
  have hzW := hB4.lt
  have hF4 : Fr [] W1 w4 := hf3.trans2 hf4 fun k hk => .inr (by simp at hk; omega)
  have hB4 := hB4.fr hF4 (by simp)
  have u0 := hB4.cell 0 rfl
  have u1 := hB4.cell 1 rfl
  have u2 := hB4.cell 2 rfl
  have v0 := hB4.frozen 0
  have v1 := hB4.frozen 1
  have v2 := hB4.frozen 2
  rw [Nat.zero_mul, Nat.add_zero] at e0 e1 e2
  generalize prunedT g L at_ t = x at *
  go_wp2_with fail
  refine bodyPost_ret (results_tree rfl _ _ (w.heap.size + 3) rfl (hB4.three _ _ _)) rfl ?_
  refine ⟨A8, c8, rfl, fr_three (hFW1.trans hF4) (.inr (by omega)) _ _ _, ?_⟩
  exact ((hRx.sub (S' := fun k => k < w.heap.size + 4) fun k _ hk => by have hk : k < w.heap.size + 4 := hk; show k < W2.heap.size; omega).fr (fr_three (S := [w.heap.size + 3]) (Fr.refl _ _) (.inl (by simp)) _ _ _) (by simp)).sub fun k _ hk => by have hk : k < w.heap.size := hk; show k < w.heap.size + 4; omega
end Go.Proofs.YtippadnbngcjlaaDoor

/- Prune of the program. -/
namespace Go.Proofs.YtippadnbngcjlaaDoor
open Go.RowKit
set_option linter.unusedVariables false

def pruneOf (g : List Ru) (L : List Int) (t : T) (at_ : List Int) : T × Int :=
  if (prunOf g L t).2 ≠ 0 then (zeroT, (prunOf g L t).2) else
  if isSet (((prunOf g L t).1.length : Int) + (t.nodes : Int)) at_ = false then (zeroT, 1) else
  if at_.all (fun x => decide (x ∈ (prunOf g L t).1)) then (prunedT g L at_ t, 0) else (zeroT, 1)
theorem pruneOf_err {g : List Ru} {L : List Int} {t : T} {at_ : List Int} (h : (prunOf g L t).2 ≠ 0) : pruneOf g L t at_ = (zeroT, (prunOf g L t).2) := if_pos h
theorem pruneOf_set {g : List Ru} {L : List Int} {t : T} {at_ can : List Int} (h : prunOf g L t = (can, 0)) (h1 : isSet ((can.length : Int) + (t.nodes : Int)) at_ = false) : pruneOf g L t at_ = (zeroT, 1) := by
  unfold pruneOf
  rw [h, if_neg (by simp), if_pos h1]
theorem pruneOf_out {g : List Ru} {L : List Int} {t : T} {at_ can : List Int} {x : Int} (h : prunOf g L t = (can, 0)) (h1 : isSet ((can.length : Int) + (t.nodes : Int)) at_ = true) (hx : x ∈ at_) (hx2 : x ∉ can) : pruneOf g L t at_ = (zeroT, 1) := by
  unfold pruneOf
  rw [h, if_neg (by simp), if_neg (by simp [h1]), if_neg]
  intro ha
  have := List.all_eq_true.1 ha x hx
  exact hx2 (by simpa using this)
theorem pruneOf_ok {g : List Ru} {L : List Int} {t : T} {at_ can : List Int} (h : prunOf g L t = (can, 0)) (h1 : isSet ((can.length : Int) + (t.nodes : Int)) at_ = true) (hx : ∀ x ∈ at_, x ∈ can) : pruneOf g L t at_ = (prunedT g L at_ t, 0) := by
  unfold pruneOf
  rw [h, if_neg (by simp), if_neg (by simp [h1]), if_pos]
  exact List.all_eq_true.2 fun x hm => by simpa using hx x hm
theorem prunIx_zero (L : List Int) (l : List Sp) (k : Nat) : (0 : Int) ∉ prunIx L l k := by
  intro h
  obtain ⟨i, hi, he⟩ := List.mem_map.1 h
  have hi := (List.mem_filter.1 hi).2
  obtain rfl : i = 0 := by omega
  cases hi

set_option maxRecDepth 20000 in
set_option maxHeartbeats 3200000 in
theorem Prune_any (A D : Option Addr) (c d : Nat) (g : List Ru) (L : List Int) (n : Nat) (t : T) (v : Value) (S : Nat → Prop) (at_ : List Int) (w : World) (ha : RRu w A c g) (hL : rulesErr g = 0 → LOk g L) (ht : RT S n w v t) (hn : t.nodes ≤ 1024) (hat : Rd w (.int .i64) D d at_) :
    Calls Tryd.prog 22 #[.agg #[.slice A g.length c], v, .slice D at_.length d] w (RetTE (n + 1024) w (pruneOf g L t at_)) := by
  obtain ⟨AT, cT, rfl, hR⟩ := ht
  have hatb := hat.bound
  obtain ⟨W, hW⟩ : ∃ W, W = ((w.alloc (.cells #[.slice A g.length c] 24)).alloc (.cells (tcells t AT cT) 27)).alloc (.cells #[.int .i64 0, .string emptyS, .slice none 0 0] 27) := ⟨_, rfl⟩
  have hF : Fr [] w W := by rw [hW]; exact (by repeat (first | exact Fr.refl _ _ | assumption | apply Fr.drewN | apply Fr.drew | apply Fr.alloc | refine Fr.setCell ?_ (by simp) _))
  have hB1 : Blk W w.heap.size 24 #[.slice A g.length c] := by rw [hW]; exact ((Blk.new w _ _ _ rfl).alloc _).alloc _
  have hB2 : Blk W (w.heap.size + 1) 27 (tcells t AT cT) := by rw [hW]; exact (Blk.new _ _ _ _ (by simp)).alloc _
  have hB3 : Blk W (w.heap.size + 2) 27 #[.int .i64 0, .string emptyS, .slice none 0 0] := by rw [hW]; exact Blk.new _ _ _ _ (by simp)
  have q0 := hB1.cell 0 rfl
  have p0 := hB2.cell 0 rfl
  have p1 := hB2.cell 1 rfl
  have p2 := hB2.cell 2 rfl
  rw [hW] at q0 p0 p1 p2
  have HW := Lib.hid hW.symm
  clear hW
  go_enter Tryd.func22, Tryd.ntmps22
  go_wp2_with fail
  rw [HW.out]
  clear q0 p0 p1 p2
  refine (Prunable_any A c g L n t _ S _ (ha.fr0 hF) hL ⟨AT, cT, rfl, hR.fr0 hF⟩ hn).mono ?_
  rintro e w1 ⟨A1, c1, rfl, hf1, ho1⟩
  have hB1 := hB1.fr hf1 (by simp)
  have hB2 := hB2.fr hf1 (by simp)
  have hB3 := hB3.fr hf1 (by simp)
  have q0 := hB1.cell 0 rfl
  have p0 := hB2.cell 0 rfl
  have p1 := hB2.cell 1 rfl
  have p2 := hB2.cell 2 rfl
  have u0 := hB3.cell 0 rfl
  have u1 := hB3.cell 1 rfl
  have u2 := hB3.cell 2 rfl
  have v0 := hB3.frozen 0
  have v1 := hB3.frozen 1
  have v2 := hB3.frozen 2
  have hF1 := hF.trans hf1
  have hcl : (prunOf g L t).1.length ≤ 1024 := by
    unfold prunOf
    split
    · exact Nat.zero_le _
    · rename_i h
      obtain ⟨_, _, _, hv, _⟩ := chkT_zero (g := g) (L := L) (t := t) (by simpa using h)
      have := prunIx_le L (spotsT g t slot0 1) (spotsT g t slot0 1).length
      rw [spots_len t hv slot0 1] at this
      exact Nat.le_trans (by rw [spots_len t hv slot0 1]; exact this) hn
  have hparts : (prunOf g L t).2 = 0 → LOk g L ∧ RulesOk g ∧ g ≠ [] ∧ g.length ≤ 32 ∧ (∀ k : Nat, k < g.length → getI L k ≤ 1024) ∧ Val g t ∧ (0 : Int) ∉ (prunOf g L t).1 := by
    intro h
    have hz : chkT g L t = 0 := by
      unfold prunOf at h
      split at h
      · exact h
      · rename_i h1; simpa using h1
    obtain ⟨hcg, _, _, hv, hro⟩ := chkT_zero hz
    obtain ⟨hg0, hg32, hre, _⟩ := chk_zero hcg
    refine ⟨hL hre, hro, fun h => hg0 (by rw [h]; rfl), hg32, fun k hk => (chk_sz hcg hL hk).2.1, hv, ?_⟩
    rw [prunOf_ok hz]
    exact prunIx_zero _ _ _
  rcases hp : prunOf g L t with ⟨can, ev⟩
  have hperr := pruneOf_err (g := g) (L := L) (t := t) (at_ := at_)
  have hpset := fun h => pruneOf_set (g := g) (L := L) (t := t) (at_ := at_) (can := can) h
  have hpout := fun x h => pruneOf_out (g := g) (L := L) (t := t) (at_ := at_) (can := can) (x := x) h
  have hpok := fun h => pruneOf_ok (g := g) (L := L) (t := t) (at_ := at_) (can := can) h
  rw [hp] at ho1 hcl hparts hperr hpset hpout hpok
  simp only at ho1 hcl hparts hperr
  simp only
  clear hp
  by_cases hez : ev = 0
  · subst hez
    obtain ⟨hok, hro, hne, h32, hle, hv, h0⟩ := hparts rfl
    obtain ⟨_, hcan⟩ := Rd.of_own ho1
    have hcb := hcan.bound
    have HLE := Lib.hid hle
    have H0 := Lib.hid h0
    have HNE := Lib.hid hne
    clear hle h0 hne hparts hperr
    clear u0 u1 u2 v0 v1 v2
    rcases hs : isSet ((can.length : Int) + (t.nodes : Int)) at_ with _ | _
    · have hE := Lib.hid (hpset rfl hs)
      have HS := Lib.hid hs
      clear hpset hpout hpok hs
      go_wp2_with (first
        | (go_at_call 17; refine (Nodes_any n t _ S _ ⟨AT, cT, rfl, hR.fr0 hF1⟩ (by omega)).mono ?_; rintro e w2 ⟨rfl, hf2⟩))
      refine (rising_any D d at_ _ _ (hat.fr0 (hF1.trans hf2))).mono ?_
      rw [HS.out]
      rintro e w3 ⟨rfl, n3, rfl⟩
      have hB3 := hB3.fr hf2 (by simp)
      have u0 := hB3.cell 0 rfl
      have u1 := hB3.cell 1 rfl
      have u2 := hB3.cell 2 rfl
      have v0 := hB3.frozen 0
      have v1 := hB3.frozen 1
      have v2 := hB3.frozen 2
      go_wp2_with fail
      refine bodyPost_ret (results_tree2 rfl _ _ (w.heap.size + 2) rfl ((hB3.drewN _).three _ _ _)) rfl ?_
      rw [hE.out]
      exact zeroT_ret ((hF1.trans hf2).drewN _) (by omega) _
    · have HS := Lib.hid hs
      have HOUT := Lib.hid (fun x => hpout x rfl hs)
      have HOK := Lib.hid (hpok rfl hs)
      clear hpset hpout hpok hs
      go_wp2_with (first
        | (go_at_call 17; refine (Nodes_any n t _ S _ ⟨AT, cT, rfl, hR.fr0 hF1⟩ (by omega)).mono ?_; rintro e w2 ⟨rfl, hf2⟩))
      refine (rising_any D d at_ _ _ (hat.fr0 (hF1.trans hf2))).mono ?_
      rw [HS.out]
      rintro e w3 ⟨rfl, n3, rfl⟩
      have hF3 : Fr [] w1 (w2.drewN n3) := hf2.drewN _
      go_wp2_with fail
      go_loopw [33] (fun i wr => ∃ k : Nat, k ≤ at_.length ∧ i = .int .i64 k ∧ Hid (∀ x ∈ at_.take k, x ∈ can) ∧ Fr [] w1 wr) (fun i _ => at_.length - (intOf i).toNat)
      case atStart => exact ⟨0, Nat.zero_le _, rfl, fun x hx => by simp at hx, hF3⟩
      case round =>
        clear hF3
        obtain ⟨k, hk, rfl, hin, hf⟩ := hrel
        have hB1 := hB1.fr hf (by simp)
        have hB2 := hB2.fr hf (by simp)
        have hB3 := hB3.fr hf (by simp)
        have u0 := hB3.cell 0 rfl
        have u1 := hB3.cell 1 rfl
        have u2 := hB3.cell 2 rfl
        have v0 := hB3.frozen 0
        have v1 := hB3.frozen 1
        have v2 := hB3.frozen 2
        by_cases hlt : k < at_.length
        · obtain ⟨b, off, x, rfl, hx, hc⟩ := hat.at_ hlt
          have hc := (hF1.trans hf).cell hc (by simp)
          rcases hm : decide (x ∈ can) with _ | _
          · have hE := Lib.hid (HOUT.out x (List.mem_of_getElem? hx.out) (by simpa using hm))
            have HM := Lib.hid hm
            clear hm
            go_wp2_with fail
            refine (has_any A1 c1 can x _ (hcan.fr0 hf)).mono ?_
            rw [HM.out]
            rintro e w5 ⟨rfl, n5, rfl⟩
            go_wp2_with fail
            refine bodyPost_ret (results_tree2 rfl _ _ (w.heap.size + 2) rfl ((hB3.drewN _).three _ _ _)) rfl ?_
            rw [hE.out]
            exact zeroT_ret ((hF1.trans hf).drewN _) (by omega) _
          · have hmx : x ∈ can := by simpa using hm
            have HM := Lib.hid hm
            have hin2 : Hid (∀ y ∈ at_.take (k + 1), y ∈ can) := fun y hy => by
              rw [List.take_add_one, hx.out] at hy
              rcases List.mem_append.1 hy with hy | hy
              · exact hin.out y hy
              · obtain rfl : y = x := by simpa using hy
                exact hmx
            clear hm hmx
            go_wp2_with fail
            refine (has_any A1 c1 can x _ (hcan.fr0 hf)).mono ?_
            rw [HM.out]
            rintro e w5 ⟨rfl, n5, rfl⟩
            go_wp2_with fail
            go_roundw
            case rel => exact ⟨k + 1, by omega, by go_num, hin2, hf.drewN _⟩
            case measure => simp [intOf]; omega
        · obtain rfl : k = at_.length := by omega
          rw [List.take_length] at hin
          have hE := Lib.hid (HOK.out hin.out)
          have h0a : Hid ((0 : Int) ∉ at_) := fun h => H0.out (hin.out 0 h)
          have q0 := hB1.cell 0 rfl
          have p0 := hB2.cell 0 rfl
          have p1 := hB2.cell 1 rfl
          have p2 := hB2.cell 2 rfl
          clear u0 u1 u2 v0 v1 v2
          go_wp2_with fail
          refine (pruned_any A D AT c d cT g L at_ n t S _ (ha.fr0 (hF1.trans hf)) hok hro HNE.out h32 HLE.out (hat.fr0 (hF1.trans hf)) h0a.out hv hn (hR.fr0 (hF1.trans hf))).mono ?_
          rintro e w6 ⟨A7, c7, rfl, hf6, hR7⟩
          have hF6 := (hF1.trans hf).trans hf6
          have hzz := (hF1.trans hf).size
          have hB3 := hB3.fr hf6 (by simp)
          have u0 := hB3.cell 0 rfl
          have u1 := hB3.cell 1 rfl
          have u2 := hB3.cell 2 rfl
          have v0 := hB3.frozen 0
          have v1 := hB3.frozen 1
          have v2 := hB3.frozen 2
          have hlw := (hB3.lt)
          have hz6 := hf.size
          have hzF := hF.size
          have hz1 := hf1.size
          have hWs : W.heap.size = w.heap.size + 3 := by rw [← HW.out]; simp
          generalize prunedT g L at_ t = x at *
          go_wp2_with fail
          refine bodyPost_ret (results_tree2 rfl _ _ (w.heap.size + 2) rfl (hB3.three _ _ _)) rfl ?_
          rw [hE.out]
          refine ⟨A7, c7, rfl, fr_three hF6 (.inr (by omega)) _ _ _, ?_⟩
          exact ((hR7.sub (S' := fun k => k < w.heap.size + 3) fun k _ hk => by have hk : k < w.heap.size + 3 := hk; show k < wr.heap.size; omega).fr (fr_three (S := [w.heap.size + 2]) (Fr.refl _ _) (.inl (by simp)) _ _ _) (by simp)).sub fun k _ hk => by have hk : k < w.heap.size := hk; show k < w.heap.size + 3; omega
  · have hE := Lib.hid (hperr hez)
    have hd : (ev != 0) = true := by simpa using hez
    clear hpset hpout hpok hparts hperr
    go_wp2_with fail
    refine bodyPost_ret (results_tree2 rfl _ _ (w.heap.size + 2) rfl (hB3.three _ _ _)) rfl ?_
    rw [hE.out]
    exact zeroT_ret hF1 (by omega) _
end Go.Proofs.YtippadnbngcjlaaDoor

/- The small grammar and the small tree of the laws: plain. -/
namespace Go.Proofs.YtippadnbngcjlaaDoor
open Go.RowKit
set_option linter.unusedVariables false

def gG : List Ru := [⟨⟨#[40]⟩, ⟨#[41]⟩, false, [⟨2, [0, 1, 2], ⟨#[43]⟩⟩]⟩, ⟨emptyS, emptyS, true, []⟩, ⟨⟨#[45]⟩, emptyS, false, [⟨0, [0, 1], emptyS⟩]⟩]
def LG : List Int := [1, 1, 2]
def tG7 : T := .mk 1 ⟨#[55]⟩ []
def tG8 : T := .mk 1 ⟨#[56]⟩ []
def tG2 : T := .mk 2 emptyS [[tG8]]
def tG : T := .mk 0 emptyS [[tG7, tG2]]
def uG : T := .mk 0 emptyS [[tG7]]
def xG : T := .mk 2 emptyS [[.mk 0 emptyS [[]]]]
theorem lok_G : LOk gG LG := by
  refine ⟨?_, ⟨rfl, ?_⟩, ?_, ?_⟩
  · intro r hr s hs
    have hr : r = gG[0] ∨ r = gG[1] ∨ r = gG[2] := by simpa [gG] using hr
    rcases hr with rfl | rfl | rfl
    · obtain rfl : s = ⟨2, [0, 1, 2], ⟨#[43]⟩⟩ := by simpa [gG] using hs
      decide
    · simp [gG] at hs
    · obtain rfl : s = ⟨0, [0, 1], emptyS⟩ := by simpa [gG] using hs
      decide
  · intro k r h
    match k, h with
    | 0, h => obtain rfl := Option.some.inj h; rfl
    | 1, h => obtain rfl := Option.some.inj h; rfl
    | 2, h => obtain rfl := Option.some.inj h; rfl
    | k + 3, h => cases h
  · decide
  · intro r hr
    have hr : r = gG[0] ∨ r = gG[1] ∨ r = gG[2] := by simpa [gG] using hr
    rcases hr with rfl | rfl | rfl <;> decide
theorem ex_chk : chkT gG LG tG = 0 := by kernel_rfl
theorem ex_chku : chkT gG LG uG = 0 := by kernel_rfl
theorem ex_p1 : printOf gG LG tG = ([40, 55, 43, 45, 56, 41], 0) := by kernel_rfl
theorem ex_p2 : printOf gG LG uG = ([40, 55, 41], 0) := by kernel_rfl
theorem ex_can : prunOf gG LG tG = ([1, 2], 0) := by kernel_rfl
theorem ex_prune : pruneOf gG LG tG [2] = (uG, 0) := by kernel_rfl
theorem ex_least : leastOf gG LG 2 = (xG, 0) := by kernel_rfl
theorem ex_nodes : tG.nodes = 4 := by kernel_rfl
theorem ex_nodes2 : xG.nodes = 2 := by kernel_rfl
theorem ex_nodes3 : uG.nodes = 2 := by kernel_rfl
end Go.Proofs.YtippadnbngcjlaaDoor

/- The least tree is a tree of the grammar, and no tree of its kind has fewer nodes: plain. -/
namespace Go.Proofs.YtippadnbngcjlaaDoor
open Go.RowKit
set_option linter.unusedVariables false

section
variable {g : List Ru} {L : List Int}
abbrev nsN (n : Nat) (x : T) : Nat := n + x.nodes
theorem least_fold {M : Int} (hp : Pos g.length L) (m : Nat) : ∀ (l : List Sl) (a : Nat), (∀ s ∈ l, s.kinds ≠ [] ∧ ∀ k ∈ s.kinds, 0 ≤ k ∧ k < g.length) → (a : Int) ≤ M → l.foldl (costStep M L) (a : Int) < M → (∀ s ∈ l, s.many = 0 → ((leastF g L m (lowestL L s.kinds)).nodes : Int) = getI L (lowestL L s.kinds)) →
    ((fold2 nsN a (l.map (leastRow g L m)) : Nat) : Int) = l.foldl (costStep M L) (a : Int)
  | [], _, _, _, _, _ => rfl
  | s :: l, a, hk, ha, hlt, hn => by
    rw [List.foldl_cons] at hlt ⊢
    rw [List.map_cons]
    have hstep : fold2 nsN a (leastRow g L m s :: l.map (leastRow g L m)) = fold2 nsN ((leastRow g L m s).foldl nsN a) (l.map (leastRow g L m)) := rfl
    rw [hstep]
    by_cases hm : s.many = 0
    · have hr : leastRow g L m s = [leastF g L m (lowestL L s.kinds)] := by unfold leastRow; rw [if_pos hm]
      have h1 := hn s (by simp) hm
      have hpos : 1 ≤ getI L (lowestL L s.kinds) := by
        have h2 := hk s (by simp)
        have h3 := h2.2 _ (lowest_mem (L := L) h2.1)
        exact hp _ h3.1 h3.2
      have hc : costStep M L (a : Int) s = min ((a : Int) + getI L (lowestL L s.kinds)) M := by unfold costStep; rw [if_pos hm]
      have hb := cost_bd (M := M) hp l (costStep M L (a : Int) s) (fun s hs => hk s (by simp [hs])) (by rw [hc]; omega)
      have hs2 : costStep M L (a : Int) s = ((a + (leastF g L m (lowestL L s.kinds)).nodes : Nat) : Int) := by
        rw [hc] at hb hlt ⊢
        omega
      rw [hs2] at hlt hb ⊢
      rw [hr]
      exact least_fold hp m l (a + (leastF g L m (lowestL L s.kinds)).nodes) (fun s hs => hk s (by simp [hs])) (by omega) hlt (fun s hs => hn s (by simp [hs]))
    · have hr : leastRow g L m s = [] := by unfold leastRow; rw [if_neg hm]
      have hc : costStep M L (a : Int) s = (a : Int) := by unfold costStep; rw [if_neg hm]
      rw [hc] at hlt ⊢
      rw [hr]
      exact least_fold hp m l a (fun s hs => hk s (by simp [hs])) ha hlt (fun s hs => hn s (by simp [hs]))
theorem least_nodes (h : LOk g L) : ∀ (m k : Nat), k < g.length → getI L k ≤ m → getI L k < MUCH → ((leastF g L m k).nodes : Int) = getI L k
  | 0, k, hk, h1, _ => by
    have := h.sz.all_pos (by decide) h.ok h.pos k (by omega) (by omega)
    omega
  | m + 1, k, hk, h1, h2 => by
    have hr := List.getElem?_eq_getElem hk
    have hp := h.sz.all_pos (by decide) h.ok h.pos
    rw [T.nodes_eq, leastF_slots hr, h.sz.get hr]
    rw [h.sz.get hr] at h2
    refine least_fold hp m _ 1 (h.ok _ (List.getElem_mem hk)) (by decide) h2 fun s hs hm => ?_
    obtain ⟨j, hj, hjl⟩ := h.low hr hs
    have hl := h.less hr hs hm (by rw [h.sz.get hr]; exact h2)
    rw [hj] at hl ⊢
    exact least_nodes h m j hjl (by omega) (by rw [h.sz.get hr] at hl; omega)
theorem nsN_le : ∀ (q : List T) (a : Nat), a ≤ q.foldl nsN a
  | [], _ => Nat.le_refl _
  | x :: q, a => Nat.le_trans (Nat.le_add_right _ _) (nsN_le q (a + x.nodes))
theorem val_fold {M : Int} : ∀ (S : List Sl) (Q : List (List T)) (a : Int) (b : Nat), S.length = Q.length → badRows S Q = false → (∀ q ∈ Q, ∀ x ∈ q, getI L x.kind ≤ (x.nodes : Int)) → a ≤ (b : Int) → S.foldl (costStep M L) a ≤ ((fold2 nsN b Q : Nat) : Int)
  | [], [], _, _, _, _, _, h => h
  | [], _ :: _, _, _, hl, _, _, _ => by simp at hl
  | _ :: _, [], _, _, hl, _, _, _ => by simp at hl
  | s :: S, q :: Q, a, b, hl, hb, hx, h => by
    have hb1 : badRow s q = false ∧ badRows S Q = false := by
      unfold badRows at hb ⊢
      rw [List.zip_cons_cons, List.any_cons, Bool.or_eq_false_iff] at hb
      exact hb
    refine val_fold S Q _ _ (by simpa using hl) hb1.2 (fun q' hq' => hx q' (by simp [hq'])) ?_
    have hle := nsN_le q b
    by_cases hm : s.many = 0
    · have hlen : q.length = 1 := Classical.byContradiction fun hn => by
        have := row_bad1 (q := q) hm (by omega)
        rw [hb1.1] at this
        cases this
      obtain ⟨x, rfl⟩ : ∃ x, q = [x] := by
        match q, hlen with
        | [x], _ => exact ⟨x, rfl⟩
      have hk : x.kind ∈ s.kinds := Classical.byContradiction fun hn => by
        have := row_bad3 (s := s) (q := [x]) (m := 0) (x := x) rfl hn
        rw [hb1.1] at this
        cases this
      have h1 := lowest_le (L := L) hk
      have h2 := hx [x] (by simp) x (by simp)
      have hc : costStep M L a s = min (a + getI L (lowestL L s.kinds)) M := by unfold costStep; rw [if_pos hm]
      rw [hc]
      show _ ≤ ((b + x.nodes : Nat) : Int)
      omega
    · have hc : costStep M L a s = a := by unfold costStep; rw [if_neg hm]
      rw [hc]
      exact Int.le_trans h (by exact_mod_cast hle)
theorem val_least (h : LOk g L) (t : T) : Val g t → getI L t.kind ≤ (t.nodes : Int) := by
  induction t using T.ind with
  | h t ih =>
    intro hv
    obtain ⟨r, hr, _, hlen, hbad, _, hsub⟩ := val_parts hv
    obtain ⟨k, hk, hgk, _⟩ := ruleAt_some hr
    rw [hk, h.sz.get hgk, T.nodes_eq]
    exact val_fold r.slots t.slots 1 1 hlen.symm hbad (fun q hq x hx => ih q hq x hx (hsub q hq x hx)) (by decide)
theorem err_none_row : ∀ (r : List T), (∀ x ∈ r, nodeErr g x = 0) → r.foldl (nodeX g) 0 = 0
  | [], _ => rfl
  | x :: r, h => by
    rw [List.foldl_cons]
    have h1 : nodeX g 0 x = 0 := by
      have := h x (by simp)
      simp [nodeX, errFold, this]
    rw [h1]
    exact err_none_row r fun y hy => h y (by simp [hy])
theorem err_none : ∀ (Q : List (List T)), (∀ r ∈ Q, ∀ x ∈ r, nodeErr g x = 0) → fold2 (nodeX g) 0 Q = 0
  | [], _ => rfl
  | r :: Q, h => by
    show fold2 (nodeX g) (r.foldl (nodeX g) 0) Q = 0
    rw [err_none_row r (h r (by simp))]
    exact err_none Q fun q hq => h q (by simp [hq])
theorem least_val (h : LOk g L) (hro : RulesOk g) : ∀ (m k : Nat), k < g.length → getI L k ≤ m → getI L k < MUCH → Val g (leastF g L m k)
  | 0, k, hk, h1, _ => by
    have := h.sz.all_pos (by decide) h.ok h.pos k (by omega) (by omega)
    omega
  | m + 1, k, hk, h1, h2 => by
    have hr := List.getElem?_eq_getElem hk
    have hra : ruleAt g (leastF g L (m + 1) k).kind = some g[k] := ruleAt_in (leastF_kind g L (m + 1) k) hr
    have hsub : ∀ s ∈ g[k].slots, s.many = 0 → Val g (leastF g L m (lowestL L s.kinds)) := fun s hs hm => by
      obtain ⟨j, hj, hjl⟩ := h.low hr hs
      have hl := h.less hr hs hm h2
      rw [hj] at hl ⊢
      exact least_val h hro m j hjl (by omega) (by omega)
    show nodeErr g (leastF g L (m + 1) k) = 0
    rw [node_on hra (by rw [leastF_text]; decide) (by rw [leastF_text, leastF_slots hr, List.length_map]; simp [emptyS]) ?_]
    · rw [leastF_slots hr]
      refine err_none _ fun q hq x hx => ?_
      obtain ⟨s, hs, rfl⟩ := List.mem_map.1 hq
      unfold leastRow at hx
      split at hx
      · rename_i hm
        obtain rfl := List.mem_singleton.1 hx
        exact hsub s hs hm
      · cases hx
    · rw [leastF_slots hr]
      unfold badRows
      refine List.any_eq_false.2 fun p hp => ?_
      rw [List.zip_map_right] at hp
      obtain ⟨z, hz, rfl⟩ := List.mem_map.1 hp
      have hz1 : z.1 ∈ g[k].slots := (List.of_mem_zip hz).1
      have hzz : z.1 = z.2 := by
        obtain ⟨i, hi, he⟩ := List.getElem_of_mem hz
        rw [List.getElem_zip] at he
        rw [← he]
      have hf : badRow z.1 (leastRow g L m z.1) = false := row_fine (fun hm => by unfold leastRow; rw [if_pos hm]; rfl) (fun hm => by unfold leastRow; rw [if_neg (by omega)]; exact Nat.zero_le _) fun x hx => by
        unfold leastRow at hx
        split at hx
        · obtain rfl := List.mem_singleton.1 hx
          rw [leastF_kind]
          exact lowest_mem (h.ok _ (List.getElem_mem hk) z.1 hz1).1
        · cases hx
      show ¬ badRow z.1 (leastRow g L m z.2) = true
      rw [← hzz, hf]
      simp
/-- The law: the least tree of a valid tree's kind. -/
theorem least_law (hL : rulesErr g = 0 → LOk g L) {t : T} (h : chkT g L t = 0) : leastOf g L t.kind = (leastT g L t.kind, 0) ∧ (leastT g L t.kind).kind = t.kind ∧ chkT g L (leastT g L t.kind) = 0 ∧ (leastT g L t.kind).nodes ≤ t.nodes := by
  obtain ⟨hcg, hn, hd, hv, hro⟩ := chkT_zero h
  obtain ⟨hg0, hg32, hre, hfar⟩ := chk_zero hcg
  obtain ⟨r, hr, _⟩ := val_parts hv
  obtain ⟨k, hk, hgk, hkl⟩ := ruleAt_some hr
  have hok := hL hre
  have hf := hfar k hkl
  unfold farK at hf
  rw [Bool.or_eq_false_iff] at hf
  have h1 : getI L k ≤ 1024 := by have := hf.1; simp at this; exact this
  have h2 : (leastT g L k).depth ≤ 24 := by have := hf.2; simp at this; exact this
  have hp := hok.sz.all_pos (by decide) hok.ok hok.pos k (by omega) (by omega)
  have hlv := val_least hok t hv
  rw [hk] at hlv ⊢
  have hno : ((leastT g L k).nodes : Int) = getI L k := least_nodes hok _ k hkl (by omega) (by unfold MUCH; omega)
  refine ⟨leastOf_ok hcg (by omega), leastF_kind _ _ _ _, ?_, by omega⟩
  rw [chkT_node hcg (by omega)]
  exact least_val hok hro _ k hkl (by omega) (by unfold MUCH; omega)
end
end Go.Proofs.YtippadnbngcjlaaDoor
