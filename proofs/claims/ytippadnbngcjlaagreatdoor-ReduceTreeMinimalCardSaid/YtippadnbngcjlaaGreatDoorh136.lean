/- Texts of this seat, one behind the other: Print, LeastV, Prun, EditM, EdNode, Pru, Twin, HoisM, ReplM, PruE, PrnM, EdV, RPruM, EdP, HoLow, Hois, Hoist, RSpD, Own, Repl, GrowM. -/
import Derived.Test.YtippadnbngcjlaaGreatDoorh126
import Derived.Test.YtippadnbngcjlaaGreatDoorh134
import Derived.Test.YtippadnbngcjlaaGreatDoorh135
import Derived.Test.YtippadnbngcjlaaGreatDoorh121
import Derived.Test.YtippadnbngcjlaaGreatDoorh124
namespace Go.Proofs.YtippadnbngcjlaaGreatDoor
set_option linter.unusedVariables false

/- Print of both. -/
section
open Go.RowKit
def printOf (g : List Ru) (L : List Int) (t : T) : Bs × Int := if chkT g L t ≠ 0 then ([], chkT g L t) else (textL g t, 0)
def RetSE (w : World) (r : Bs × Int) (e : Ending) (w' : World) : Prop := e = .returned (.tuple #[.string (tx r.1), .int .i64 r.2]) ∧ Fr [] w w'
theorem printOf_err {g : List Ru} {L : List Int} {t : T} (h : chkT g L t ≠ 0) : printOf g L t = ([], chkT g L t) := if_pos h
theorem printOf_ok {g : List Ru} {L : List Int} {t : T} (h : chkT g L t = 0) : printOf g L t = (textL g t, 0) := by unfold printOf; rw [if_neg (by simp [h])]
theorem chkT_zero {g : List Ru} {L : List Int} {t : T} (h : chkT g L t = 0) : chkG g L = 0 ∧ t.nodes ≤ 1024 ∧ t.depth ≤ 24 ∧ Val g t ∧ RulesOk g := by
 unfold chkT at h
 split at h
 ·contradiction
 ·rename_i h1
  have h1 : chkG g L = 0 := by simpa using h1
  split at h
  ·omega
  ·rename_i h2
   exact ⟨h1, by omega, by omega, h, rules_ok (chk_zero h1).2.2.1⟩
theorem chkT_text {g : List Ru} {L : List Int} {t : T} (h : chkT g L t = 0) : Val g t ∧ (textL g t).length ≤ 1000000 := by
 obtain ⟨_, h1, _, h2, h3⟩ := chkT_zero h
 have := text_short h3 t h2
 exact ⟨h2, by omega⟩
set_option maxRecDepth 20000 in
set_option maxHeartbeats 3200000 in
theorem Print_any (A : Option Addr) (c : Nat) (g : List Ru) (L : List Int) (n : Nat) (t : T) (v : Value) (S : Nat → Prop) (w : World) (ha : RRu w A c g) (hL : rulesErr g = 0 → LOk g L) (ht : RT S n w v t) (hn : t.nodes ≤ 1024) :
  Calls Tryz.prog 18 #[.agg #[.slice A g.length c], v] w (RetSE w (printOf g L t)) := by
 obtain ⟨AT, cT, rfl, hR⟩ := ht
 have hB1 := (Blk.new w 24 #[.slice A g.length c] _ rfl).alloc (.cells (tcells t AT cT) 27)
 have hB2 := Blk.new (w.alloc (.cells #[.slice A g.length c] 24)) 27 (tcells t AT cT) (w.heap.size + 1) (by simp)
 obtain ⟨W, hW⟩ : ∃ W, W = (w.alloc (.cells #[.slice A g.length c] 24)).alloc (.cells (tcells t AT cT) 27) := ⟨_, rfl⟩
 rw [← hW] at hB1 hB2
 have hF : Fr [] w W := by rw [hW]; exact frx
 have q0 := hB1.cell 0 rfl
 rw [hW] at q0
 have HW := Lib.hid hW.symm
 clear hW
 go_enter Tryz.func18, Tryz.ntmps18
 go_wp2_with fail
 rw [HW.out]
 clear q0
 refine (CheckTree_any A c g L n t _ S _ (ha.fr0 hF) hL ⟨AT, cT, rfl, hR.fr0 hF⟩ hn).mono ?_
 rintro e w1 ⟨rfl, hf1⟩
 have hB1 := hB1.fr hf1 (by simp)
 have hB2 := hB2.fr hf1 (by simp)
 have q0 := hB1.cell 0 rfl
 have p0 := hB2.cell 0 rfl
 have p1 := hB2.cell 1 rfl
 have p2 := hB2.cell 2 rfl
 have hF1 := hF.trans hf1
 by_cases hez : chkT g L t = 0
 ·have hE := Lib.hid (printOf_ok hez)
  obtain ⟨hv, hl⟩ := chkT_text hez
  have hv := Lib.hid hv
  rw [hez]
  clear hez
  go_wp2_with fail
  refine (text_any A c g n t _ S _ (ha.fr0 hF1) ⟨AT, cT, rfl, hR.fr0 hF1⟩ hv.out hl).mono ?_
  rintro e w2 ⟨rfl, hf2⟩
  go_wp2
  go_ret2
  rw [hE.out]
  exact ⟨rfl, hF1.trans hf2⟩
 ·have hE := Lib.hid (printOf_err hez)
  have hd : (chkT g L t != 0) = true := by simpa using hez
  have hez := Lib.hid hez
  generalize chkT g L t = ev at *
  go_wp2
  go_ret2
  rw [hE.out]
  exact ⟨rfl, hF1⟩
set_option maxRecDepth 20000 in
set_option maxHeartbeats 3200000 in
theorem refPrint_any (A : Option Addr) (c : Nat) (g : List Ru) (L : List Int) (n : Nat) (t : T) (v : Value) (S : Nat → Prop) (w : World) (ha : RRu w A c g) (hL : rulesErr g = 0 → LOk g L) (ht : RT S n w v t) (hn : t.nodes ≤ 1024) :
  Calls Tryz.prog 10 #[.agg #[.slice A g.length c], v] w (RetSE w (printOf g L t)) := by
 obtain ⟨AT, cT, rfl, hR⟩ := ht
 have hB1 := (Blk.new w 24 #[.slice A g.length c] _ rfl).alloc (.cells (tcells t AT cT) 27)
 have hB2 := Blk.new (w.alloc (.cells #[.slice A g.length c] 24)) 27 (tcells t AT cT) (w.heap.size + 1) (by simp)
 obtain ⟨W, hW⟩ : ∃ W, W = (w.alloc (.cells #[.slice A g.length c] 24)).alloc (.cells (tcells t AT cT) 27) := ⟨_, rfl⟩
 rw [← hW] at hB1 hB2
 have hF : Fr [] w W := by rw [hW]; exact frx
 have q0 := hB1.cell 0 rfl
 rw [hW] at q0
 have HW := Lib.hid hW.symm
 clear hW
 go_enter Tryz.func10, Tryz.ntmps10
 go_wp2_with fail
 rw [HW.out]
 clear q0
 refine (refCheckTree_any A c g L n t _ S _ (ha.fr0 hF) hL ⟨AT, cT, rfl, hR.fr0 hF⟩ (by omega)).mono ?_
 rintro e w1 ⟨rfl, hf1⟩
 have hB1 := hB1.fr hf1 (by simp)
 have hB2 := hB2.fr hf1 (by simp)
 have q0 := hB1.cell 0 rfl
 have p0 := hB2.cell 0 rfl
 have p1 := hB2.cell 1 rfl
 have p2 := hB2.cell 2 rfl
 have hF1 := hF.trans hf1
 by_cases hez : chkT g L t = 0
 ·have hE := Lib.hid (printOf_ok hez)
  obtain ⟨hv, hl⟩ := chkT_text hez
  have hv := Lib.hid hv
  rw [hez]
  clear hez
  go_wp2_with fail
  refine (reftext_any A c g n t _ S _ (ha.fr0 hF1) ⟨AT, cT, rfl, hR.fr0 hF1⟩ hv.out hl).mono ?_
  rintro e w2 ⟨rfl, hf2⟩
  go_wp2
  go_ret2
  rw [hE.out]
  exact ⟨rfl, hF1.trans hf2⟩
 ·have hE := Lib.hid (printOf_err hez)
  have hd : (chkT g L t != 0) = true := by simpa using hez
  have hez := Lib.hid hez
  generalize chkT g L t = ev at *
  go_wp2
  go_ret2
  rw [hE.out]
  exact ⟨rfl, hF1⟩
end

/- The least tree is a tree of the grammar, and no tree of its kind has fewer nodes: plain. -/
section
open Go.RowKit
section
variable {g : List Ru} {L : List Int}
abbrev nsN (n : Nat) (x : T) : Nat := n + x.nodes
theorem least_fold {M : Int} (hp : Pos g.length L) (m : Nat) : ∀ (l : List Sl) (a : Nat), (∀ s ∈ l, s.kinds ≠ [] ∧ ∀ k ∈ s.kinds, 0 ≤ k ∧ k < g.length) → (a : Int) ≤ M → l.foldl (costStep M L) (a : Int) < M → (∀ s ∈ l, s.many = 0 → ((leastF g L m (lowestL L s.kinds)).nodes : Int) = getI L (lowestL L s.kinds)) →
    ((fold2 nsN a (l.map (leastRow g L m)) : Nat) : Int) = l.foldl (costStep M L) (a : Int)
  | [], _, _, _, _, _ => rfl
  | s :: l, a, hk, ha, hlt, hn => by
    rw [List.foldl_cons] at hlt ⊢
    rw [List.map_cons]
    have hstep : fold2 nsN a (leastRow g L m s :: l.map (leastRow g L m)) = fold2 nsN ((leastRow g L m s).foldl nsN a) (l.map (leastRow g L m)) := rfl
    rw [hstep]
    by_cases hm : s.many = 0
    · have hr : leastRow g L m s = [leastF g L m (lowestL L s.kinds)] := by unfold leastRow; rw [if_pos hm]
      have h1 := hn s (by simp) hm
      have hpos : 1 ≤ getI L (lowestL L s.kinds) := by
        have h2 := hk s (by simp)
        have h3 := h2.2 _ (lowest_mem (L := L) h2.1)
        exact hp _ h3.1 h3.2
      have hc : costStep M L (a : Int) s = min ((a : Int) + getI L (lowestL L s.kinds)) M := by unfold costStep; rw [if_pos hm]
      have hb := cost_bd (M := M) hp l (costStep M L (a : Int) s) (fun s hs => hk s (by simp [hs])) (by rw [hc]; omega)
      have hs2 : costStep M L (a : Int) s = ((a + (leastF g L m (lowestL L s.kinds)).nodes : Nat) : Int) := by
        rw [hc] at hb hlt ⊢
        omega
      rw [hs2] at hlt hb ⊢
      rw [hr]
      exact least_fold hp m l (a + (leastF g L m (lowestL L s.kinds)).nodes) (fun s hs => hk s (by simp [hs])) (by omega) hlt (fun s hs => hn s (by simp [hs]))
    · have hr : leastRow g L m s = [] := by unfold leastRow; rw [if_neg hm]
      have hc : costStep M L (a : Int) s = (a : Int) := by unfold costStep; rw [if_neg hm]
      rw [hc] at hlt ⊢
      rw [hr]
      exact least_fold hp m l a (fun s hs => hk s (by simp [hs])) ha hlt (fun s hs => hn s (by simp [hs]))
theorem least_nodes (h : LOk g L) : ∀ (m k : Nat), k < g.length → getI L k ≤ m → getI L k < MUCH → ((leastF g L m k).nodes : Int) = getI L k
  | 0, k, hk, h1, _ => by
    have := h.sz.all_pos (by decide) h.ok h.pos k (by omega) (by omega)
    omega
  | m + 1, k, hk, h1, h2 => by
    have hr := List.getElem?_eq_getElem hk
    have hp := h.sz.all_pos (by decide) h.ok h.pos
    rw [T.nodes_eq, leastF_slots hr, h.sz.get hr]
    rw [h.sz.get hr] at h2
    refine least_fold hp m _ 1 (h.ok _ (List.getElem_mem hk)) (by decide) h2 fun s hs hm => ?_
    obtain ⟨j, hj, hjl⟩ := h.low hr hs
    have hl := h.less hr hs hm (by rw [h.sz.get hr]; exact h2)
    rw [hj] at hl ⊢
    exact least_nodes h m j hjl (by omega) (by rw [h.sz.get hr] at hl; omega)
theorem err_none_row : ∀ (r : List T), (∀ x ∈ r, nodeErr g x = 0) → r.foldl (nodeX g) 0 = 0
  | [], _ => rfl
  | x :: r, h => by
    rw [List.foldl_cons]
    have h1 : nodeX g 0 x = 0 := by
      have := h x (by simp)
      simp [nodeX, errFold, this]
    rw [h1]
    exact err_none_row r fun y hy => h y (by simp [hy])
theorem err_none : ∀ (Q : List (List T)), (∀ r ∈ Q, ∀ x ∈ r, nodeErr g x = 0) → fold2 (nodeX g) 0 Q = 0
  | [], _ => rfl
  | r :: Q, h => by
    show fold2 (nodeX g) (r.foldl (nodeX g) 0) Q = 0
    rw [err_none_row r (h r (by simp))]
    exact err_none Q fun q hq => h q (by simp [hq])
theorem least_val (h : LOk g L) (hro : RulesOk g) : ∀ (m k : Nat), k < g.length → getI L k ≤ m → getI L k < MUCH → Val g (leastF g L m k)
  | 0, k, hk, h1, _ => by
    have := h.sz.all_pos (by decide) h.ok h.pos k (by omega) (by omega)
    omega
  | m + 1, k, hk, h1, h2 => by
    have hr := List.getElem?_eq_getElem hk
    have hra : ruleAt g (leastF g L (m + 1) k).kind = some g[k] := ruleAt_in (leastF_kind g L (m + 1) k) hr
    have hsub : ∀ s ∈ g[k].slots, s.many = 0 → Val g (leastF g L m (lowestL L s.kinds)) := fun s hs hm => by
      obtain ⟨j, hj, hjl⟩ := h.low hr hs
      have hl := h.less hr hs hm h2
      rw [hj] at hl ⊢
      exact least_val h hro m j hjl (by omega) (by omega)
    show nodeErr g (leastF g L (m + 1) k) = 0
    rw [node_on hra (by rw [leastF_text]; decide) (by rw [leastF_text, leastF_slots hr, List.length_map]; simp [emptyS]) ?_]
    · rw [leastF_slots hr]
      refine err_none _ fun q hq x hx => ?_
      obtain ⟨s, hs, rfl⟩ := List.mem_map.1 hq
      unfold leastRow at hx
      split at hx
      · rename_i hm
        obtain rfl := List.mem_singleton.1 hx
        exact hsub s hs hm
      · cases hx
    · rw [leastF_slots hr]
      unfold badRows
      refine List.any_eq_false.2 fun p hp => ?_
      rw [List.zip_map_right] at hp
      obtain ⟨z, hz, rfl⟩ := List.mem_map.1 hp
      have hz1 : z.1 ∈ g[k].slots := (List.of_mem_zip hz).1
      have hzz : z.1 = z.2 := by
        obtain ⟨i, hi, he⟩ := List.getElem_of_mem hz
        rw [List.getElem_zip] at he
        rw [← he]
      have hf : badRow z.1 (leastRow g L m z.1) = false := row_fine (fun hm => by unfold leastRow; rw [if_pos hm]; rfl) (fun hm => by unfold leastRow; rw [if_neg (by omega)]; exact Nat.zero_le _) fun x hx => by
        unfold leastRow at hx
        split at hx
        · obtain rfl := List.mem_singleton.1 hx
          rw [leastF_kind]
          exact lowest_mem (h.ok _ (List.getElem_mem hk) z.1 hz1).1
        · cases hx
      show ¬ badRow z.1 (leastRow g L m z.2) = true
      rw [← hzz, hf]
      simp
end
end

/- prunable and Prunable of the program. -/
section
open Go.RowKit
def prunB (L : List Int) (p : Sp) : Bool := p.slot.many != 0 || decide (getI L (lowestL L p.slot.kinds) < p.size)
def KOk (n : Nat) (s : Sl) : Prop := s.kinds ≠ [] ∧ ∀ k ∈ s.kinds, 0 ≤ k ∧ k < n
set_option maxRecDepth 20000 in
set_option maxHeartbeats 3200000 in
theorem prunable_any (n : Nat) (A B : Option Addr) (ca cb : Nat) (C : Option Addr) (cc : Nat) (L : List Int) (p : Sp) (w : World) (hn : L.length = n) (ha : Rd w (.int .i64) A ca L) (hb : Rd w (.int .i64) B cb p.slot.kinds) (hk : KOk n p.slot) (hp : p.size ≤ 100000) :
  Calls Tryz.prog 45 #[.slice A n ca, .agg #[.int .i64 p.tree.kind, .string p.tree.text, .slice C p.tree.slots.length cc, .int .u8 p.slot.many, .slice B p.slot.kinds.length cb, .string p.slot.between, .int .i64 p.depth, .int .i64 p.size]] w (RetV w (.bool (prunB L p))) := by
 have hL1 := ha.bound
 have hk1 := hb.bound
 obtain ⟨hk0, hkr⟩ := hk
 have hlm := hkr _ (lowest_mem (L := L) hk0)
 obtain ⟨j, hj⟩ : ∃ j : Nat, lowestL L p.slot.kinds = j := ⟨(lowestL L p.slot.kinds).toNat, by omega⟩
 have hjl : j < L.length := by omega
 obtain ⟨b3, o3, y, hA, hy, hc3⟩ := ha.at_ hjl
 subst hA
 have hgy : getI L (j : Int) = y := getI_at hy.out
 have HJ := Lib.hid hj
 have HK0 := Lib.hid hk0
 have HKR := Lib.hid hkr
 have hjn : j < n := by omega
 have hjn2 : (j : Int) < (n : Int) := by omega
 obtain ⟨mv, hmv⟩ : ∃ mv, p.slot.many = mv := ⟨_, rfl⟩
 have hB : Hid (prunB L p = (mv != 0 || decide (y < p.size))) := by show _ = _; unfold prunB; rw [hmv, hj, hgy]
 rw [hmv, hB.out]
 have HN := Lib.hid hn
 have ha' := ha.alloc (.cells #[.int .i64 p.tree.kind, .string p.tree.text, .slice C p.tree.slots.length cc, .int .u8 mv, .slice B p.slot.kinds.length cb, .string p.slot.between, .int .i64 p.depth, .int .i64 p.size] 86)
 have hb' := hb.alloc (.cells #[.int .i64 p.tree.kind, .string p.tree.text, .slice C p.tree.slots.length cc, .int .u8 mv, .slice B p.slot.kinds.length cb, .string p.slot.between, .int .i64 p.depth, .int .i64 p.size] 86)
 have hc3' := fun o => ((Fr.refl [] w).alloc o).cell hc3 (by simp)
 have HLOW : Hid (∀ k, Calls Tryz.prog 71 #[.slice (some ⟨b3, o3, none⟩) n ca, .slice B p.slot.kinds.length cb] ((w.alloc (.cells #[.int .i64 p.tree.kind, .string p.tree.text, .slice C p.tree.slots.length cc, .int .u8 mv, .slice B p.slot.kinds.length cb, .string p.slot.between, .int .i64 p.depth, .int .i64 p.size] 86)).drewN k) (RetQ ((w.alloc (.cells #[.int .i64 p.tree.kind, .string p.tree.text, .slice C p.tree.slots.length cc, .int .u8 mv, .slice B p.slot.kinds.length cb, .string p.slot.between, .int .i64 p.depth, .int .i64 p.size] 86)).drewN k) (.int .i64 (j : Nat)))) := fun k => by
  have h := lowestn_any n _ B ca cb L p.slot.kinds _ HN.out (ha'.drewN k) (hb'.drewN k) HK0.out HKR.out
  rw [HJ.out] at h
  exact h
 clear hk0 hkr hj hlm hn hmv hgy
 by_cases hm : mv = 0
 ·subst hm
  by_cases hlt : y < p.size
  ·have hd : decide (y < (p.size : Int)) = true := by simp [hlt]
   rw [hd]
   go_enter Tryz.func45, Tryz.ntmps45
   go_wp2
   go_quiet ((go_at_call 71; first | exact quiet_of (HLOW.out _) | exact quiet_add (HLOW.out _)))
   go_wp2
   go_ret
   exact ⟨rfl, frx⟩
  ·have hd : decide (y < (p.size : Int)) = false := by simp; omega
   rw [hd]
   go_enter Tryz.func45, Tryz.ntmps45
   go_wp2
   go_quiet ((go_at_call 71; first | exact quiet_of (HLOW.out _) | exact quiet_add (HLOW.out _)))
   go_wp2
   go_ret
   exact ⟨rfl, frx⟩
 ·have hd : (mv != 0) = true := by simpa using hm
  rw [hd]
  go_enter Tryz.func45, Tryz.ntmps45
  go_wp2
  go_quiet (fail)
  go_wp2
  go_ret
  exact ⟨rfl, frx⟩
def prunAt (L : List Int) (l : List Sp) (i : Nat) : Bool := decide (0 < i) && ((l[i]?).map (prunB L)).getD false
def prunIx (L : List Int) (l : List Sp) (k : Nat) : List Int := ((List.range k).filter (prunAt L l)).map fun (i : Nat) => (i : Int)
def slot0 : Sl := ⟨0, [], emptyS⟩
def prunOf (g : List Ru) (L : List Int) (t : T) : List Int × Int := if chkT g L t ≠ 0 then ([], chkT g L t) else (prunIx L (spotsT g t slot0 1) (spotsT g t slot0 1).length, 0)
theorem prunOf_err {g : List Ru} {L : List Int} {t : T} (h : chkT g L t ≠ 0) : prunOf g L t = ([], chkT g L t) := if_pos h
theorem prunOf_ok {g : List Ru} {L : List Int} {t : T} (h : chkT g L t = 0) : prunOf g L t = (prunIx L (spotsT g t slot0 1) (spotsT g t slot0 1).length, 0) := by unfold prunOf; rw [if_neg (by simp [h])]
theorem prunIx_yes {L : List Int} {l : List Sp} {k : Nat} (h : prunAt L l k = true) : prunIx L l (k + 1) = prunIx L l k ++ [(k : Int)] := by unfold prunIx; rw [List.range_succ]; simp [h]
theorem prunIx_no {L : List Int} {l : List Sp} {k : Nat} (h : prunAt L l k = false) : prunIx L l (k + 1) = prunIx L l k := by unfold prunIx; rw [List.range_succ]; simp [h]
theorem prunIx_le (L : List Int) (l : List Sp) (k : Nat) : (prunIx L l k).length ≤ k := by
 unfold prunIx
 rw [List.length_map]
 exact Nat.le_trans (List.length_filter_le _ _) (by simp)
theorem prunAt_zero (L : List Int) (l : List Sp) : prunAt L l 0 = false := rfl
theorem prunAt_pos {L : List Int} {l : List Sp} {k : Nat} {p : Sp} (h0 : 0 < k) (h : l[k]? = some p) : prunAt L l k = prunB L p := by simp [prunAt, h0, h]
theorem mem_row {g : List Ru} {s : Sl} {d : Int} {p : Sp} : ∀ (q : List T) (out : List Sp), p ∈ q.foldl (spotX g s d) out → p ∈ out ∨ ∃ x ∈ q, p ∈ spotsT g x s (d + 1)
  | [], _, h => .inl h
  | x :: q, out, h => by
    rcases mem_row q _ h with h | ⟨y, hy, h⟩
    · rcases List.mem_append.1 h with h | h
      · exact .inl h
      · exact .inr ⟨x, by simp, h⟩
    · exact .inr ⟨y, by simp [hy], h⟩
theorem mem_rows {g : List Ru} {d : Int} {p : Sp} : ∀ (Z : List (Sl × List T)) (out : List Sp), p ∈ Z.foldl (spotP g d) out → p ∈ out ∨ ∃ z ∈ Z, ∃ x ∈ z.2, p ∈ spotsT g x z.1 (d + 1)
  | [], _, h => .inl h
  | z :: Z, out, h => by
    rcases mem_rows Z _ h with h | ⟨y, hy, h⟩
    · rcases mem_row z.2 out h with h | ⟨x, hx, h⟩
      · exact .inl h
      · exact .inr ⟨z, by simp, x, hx, h⟩
    · exact .inr ⟨y, by simp [hy], h⟩
theorem spots_ok {g : List Ru} (hg : RulesOk g) (t : T) : Val g t → ∀ (d : Int), ∀ p ∈ restT g t d, KOk g.length p.slot ∧ p.size ≤ t.nodes := by
  induction t using T.ind with
  | h t ih =>
    intro hv d p hp
    obtain ⟨r, hr, _, hlen, _, _, hsub⟩ := val_parts hv
    obtain ⟨k, _, hk, _⟩ := ruleAt_some hr
    rw [restT_eq hr] at hp
    rcases mem_rows _ _ hp with hp | ⟨z, hz, x, hx, hp⟩
    · simp at hp
    · have hz2 : z.2 ∈ t.slots := (List.of_mem_zip hz).2
      have hz1 : z.1 ∈ r.slots := (List.of_mem_zip hz).1
      have hxv := hsub _ hz2 x hx
      obtain ⟨i, hi, hi2⟩ := List.getElem_of_mem hz2
      obtain ⟨j, hj, hj2⟩ := List.getElem_of_mem hx
      have hlt := nodes_below (t := t) (i := i) (k := j) (r := z.2) (x := x) (show Hid _ from (List.getElem?_eq_getElem hi).trans (by rw [hi2])) (show Hid _ from (List.getElem?_eq_getElem hj).trans (by rw [hj2]))
      have hsz := spots_len x hxv z.1 (d + 1)
      rw [spotsT_eq] at hp hsz
      rw [List.length_cons] at hsz
      rcases List.mem_cons.1 hp with rfl | hp
      · refine ⟨hg.kinds r (List.mem_of_getElem? hk) z.1 hz1, ?_⟩
        show 1 + (restT g x (d + 1)).length ≤ t.nodes
        omega
      · obtain ⟨h1, h2⟩ := ih _ hz2 x hx hxv (d + 1) p hp
        exact ⟨h1, by omega⟩
def RetNE (w : World) (r : List Int × Int) (e : Ending) (w' : World) : Prop :=
 ∃ A c, e = .returned (.tuple #[.slice A r.1.length c, .int .i64 r.2]) ∧ Fr [] w w' ∧ w'.ownsRow w.heap.size 3 1 (.slice A r.1.length c) r.1.length (r.1.map (.int .i64))
set_option maxRecDepth 20000 in
set_option maxHeartbeats 3200000 in
theorem Prunable_any (A : Option Addr) (c : Nat) (g : List Ru) (L : List Int) (n : Nat) (t : T) (v : Value) (S : Nat → Prop) (w : World) (ha : RRu w A c g) (hL : rulesErr g = 0 → LOk g L) (ht : RT S n w v t) (hn : t.nodes ≤ 1024) :
  Calls Tryz.prog 19 #[.agg #[.slice A g.length c], v] w (RetNE w (prunOf g L t)) := by
 obtain ⟨AT, cT, rfl, hR⟩ := ht
 have hB1 := (Blk.new w 24 #[.slice A g.length c] _ rfl).alloc (.cells (tcells t AT cT) 27)
 have hB2 := Blk.new (w.alloc (.cells #[.slice A g.length c] 24)) 27 (tcells t AT cT) (w.heap.size + 1) (by simp)
 obtain ⟨W, hW⟩ : ∃ W, W = (w.alloc (.cells #[.slice A g.length c] 24)).alloc (.cells (tcells t AT cT) 27) := ⟨_, rfl⟩
 rw [← hW] at hB1 hB2
 have hF : Fr [] w W := by rw [hW]; exact frx
 have q0 := hB1.cell 0 rfl
 rw [hW] at q0
 have HW := Lib.hid hW.symm
 clear hW
 go_enter Tryz.func19, Tryz.ntmps19
 go_wp2_with fail
 rw [HW.out]
 clear q0
 refine (CheckTree_any A c g L n t _ S _ (ha.fr0 hF) hL ⟨AT, cT, rfl, hR.fr0 hF⟩ hn).mono ?_
 rintro e w1 ⟨rfl, hf1⟩
 have hB1 := hB1.fr hf1 (by simp)
 have hB2 := hB2.fr hf1 (by simp)
 have q0 := hB1.cell 0 rfl
 have hF1 := hF.trans hf1
 by_cases hez : chkT g L t = 0
 ·have hE := Lib.hid (prunOf_ok hez)
  obtain ⟨hcg, _, _, hval, hrok⟩ := chkT_zero hez
  obtain ⟨hg0, hg32, hre, _⟩ := chk_zero hcg
  have hok := hL hre
  have hlen : Hid (L.length = g.length) := hok.sz.1
  have hne : g ≠ [] := fun h => hg0 (by rw [h]; rfl)
  have HS := Lib.hid (spotsT_eq g t slot0 1)
  have HSL := Lib.hid (spots_len t hval slot0 1)
  have HOKS := Lib.hid (spots_ok hrok t hval 1)
  have HV := Lib.hid hval
  rw [hez]
  clear hez hcg hval hrok hg0
  go_wp2_with fail
  refine (sizes_any A c g L _ (ha.fr0 hF1) hne hg32 hok.ok hok.sz hok.pos).mono ?_
  rintro e w2 ⟨A5, c5, rfl, hf2, hr5⟩
  rw [hlen.out]
  have hB1 := hB1.fr hf2 (by simp)
  have hB2 := hB2.fr hf2 (by simp)
  have q0 := hB1.cell 0 rfl
  have p0 := hB2.cell 0 rfl
  have p1 := hB2.cell 1 rfl
  have p2 := hB2.cell 2 rfl
  have hF2 := hF1.trans hf2
  go_wp2_with fail
  refine (spots_any A c g w ha w.heap.size (Nat.le_refl _) n t AT cT _ slot0 none 0 1 hF2 hF2.size ((hR.sub (S' := fun k => w.heap.size ≤ k) (fun k h1 h2 => absurd h1 (Nat.not_lt.2 h2))).fr0 hF2) (Rd.nil_ _ _) (fun a h => by cases h) HV.out hn (by omega) (by omega)).mono ?_
  rintro e w3 ⟨A6, c6, G, rfl, hf3, hGm, hG, hGo⟩
  have hGl : Hid (G.length = (spotsT g t slot0 1).length) := by show _ = _; rw [← hGm, List.length_map]
  rw [HSL.out] at hG hGl
  rw [HSL.out]
  have hGL2 : G.length ≤ 1024 := by rw [hGl.out]; exact hn
  obtain ⟨b6, off6, rfl, hcell⟩ := Cells.of_own hG (by rw [encS_len, hGl.out]; have := T.nodes_pos t; omega)
  have HCELL := Lib.hid hcell
  clear hcell
  have hr53 := hr5.fr0 hf3
  have hF3 := hF2.trans hf3
  have HGM := Lib.hid hGm
  clear hGm q0 p0 p1 p2
  go_wp2_with fail
  go_loopw [7, 24] (fun ov i wr => ∃ k : Nat, k ≤ t.nodes ∧ i = .int .i64 k ∧ GathN w3 3 (prunIx L (spotsT g t slot0 1) k) ov wr) (fun _ i _ => t.nodes - (intOf i).toNat)
  case atStart => exact ⟨0, Nat.zero_le _, rfl, GathN.start _ _ rfl⟩
  case round =>
   obtain ⟨k, hk, rfl, A7, c7, rfl, ho7, hf7⟩ := hrel
   have hpl := prunIx_le L (spotsT g t slot0 1) k
   by_cases hlt : k < t.nodes
   ·obtain ⟨p, hp⟩ : ∃ p, G[k]? = some p := ⟨_, List.getElem?_eq_getElem (by rw [hGl.out]; exact hlt)⟩
    have hcl : Hid (∀ j u, (encS p)[j]? = some u → wr.cell? ⟨b6, off6 + k * 8 + j, none⟩ = some u) := fun j u hu => by
     rw [Nat.add_assoc]
     exact hf7.cell (HCELL.out _ _ (encS_at G k p hp j u hu)) (by simp)
    have f0 := hcl.out 0 _ rfl
    have f1 := hcl.out 1 _ rfl
    have f2 := hcl.out 2 _ rfl
    have f3 := hcl.out 3 _ rfl
    have f4 := hcl.out 4 _ rfl
    have f5 := hcl.out 5 _ rfl
    have f6 := hcl.out 6 _ rfl
    have f7 := hcl.out 7 _ rfl
    rw [Nat.add_zero] at f0
    have hpg : Hid ((spotsT g t slot0 1)[k]? = some p.1) := by show _ = _; rw [← HGM.out, List.getElem?_map, hp]; rfl
    have hpo := hGo p (List.mem_of_getElem? hp)
    have hkd := hpo.kinds
    obtain ⟨p, ⟨C1, cc1⟩, ⟨D1, dd1⟩⟩ := p
    simp only at f0 f1 f2 f3 f4 f5 f6 f7 hkd hpg
    clear hp hpo
    obtain ⟨W5, hW5⟩ : ∃ W, W = wr.alloc (.cells #[.int .i64 p.tree.kind, .string p.tree.text, .slice C1 p.tree.slots.length cc1, .int .u8 p.slot.many, .slice D1 p.slot.kinds.length dd1, .string p.slot.between, .int .i64 p.depth, .int .i64 p.size] 86) := ⟨_, rfl⟩
    have hf5 : Fr [] wr W5 := by rw [hW5]; exact frx
    have HW5 := Lib.hid hW5.symm
    have ho5 := own_fr ho7 hf5 (by simp)
    by_cases hk0 : 0 < k
    ·have hpa := prunAt_pos (L := L) hk0 hpg.out
     have hmem : p ∈ restT g t 1 := by
      have := hpg.out
      rw [HS.out] at this
      obtain ⟨k', rfl⟩ : ∃ k', k = k' + 1 := ⟨k - 1, by omega⟩
      rw [List.getElem?_cons_succ] at this
      exact List.mem_of_getElem? this
     obtain ⟨hko, hsz⟩ := HOKS.out p hmem
     have hko := Lib.hid hko
     have hk0' := Lib.hid hk0
     rcases hpb : prunB L p with _ | _
     ·rw [hpb] at hpa
      have hst := Lib.hid (prunIx_no hpa)
      have hpb := Lib.hid hpb
      clear hpa hmem
      go_wp2_with fail
      rw [HW5.out]
      refine (prunable_any g.length A5 D1 c5 dd1 C1 cc1 L p _ hlen.out (hr53.fr0 (hf7.trans hf5)) (hkd.fr0 (hf7.trans hf5)) hko.out (by omega)).mono ?_
      rw [hpb.out]
      rintro e w8 ⟨rfl, hf8⟩
      go_wp2
      go_roundw
      case rel => exact ⟨k + 1, by omega, by go_num, by rw [hst.out]; exact ⟨A7, c7, rfl, own_fr ho5 hf8 (by simp), (hf7.trans hf5).trans hf8⟩⟩
      case measure => simp [intOf]; omega
     ·rw [hpb] at hpa
      have hst := Lib.hid (prunIx_yes hpa)
      have hpb := Lib.hid hpb
      clear hpa hmem
      go_wp2_with fail
      rw [HW5.out]
      refine (prunable_any g.length A5 D1 c5 dd1 C1 cc1 L p _ hlen.out (hr53.fr0 (hf7.trans hf5)) (hkd.fr0 (hf7.trans hf5)) hko.out (by omega)).mono ?_
      rw [hpb.out]
      rintro e w8 ⟨rfl, hf8⟩
      have hF8 := (hf7.trans hf5).trans hf8
      have ho8 := own_fr ho5 hf8 (by simp)
      have hz8 := hF8.size
      generalize prunIx L (spotsT g t slot0 1) k = zs at *
      go_wp2_with (at_builtin; refine wpList_append_rd rfl (.tmp 36) (.tmp 38) _ rfl elemInts (.slice A7 zs.length c7) (zs.map (.int .i64)) rfl (ho8.alloc _) (some ⟨w8.heap.size, 0, none⟩) 1 [(k : Int)] (.int .i64) rfl (Rd.one w8 _ _ _) one_i64 (by simp; omega) (by simp; omega) ?_; intro A9 c9 w9 ho9 hg9 hat9)
      go_roundw
      case rel => exact ⟨k + 1, by omega, by go_num, by rw [hst.out]; have := GathN.snoc (zs := zs ++ [(k : Int)]) (hF8.alloc _) (ho8.alloc _) hg9 ho9 (by simp); simpa using this⟩
      case measure => simp [intOf]; omega
    ·have hk00 : k = 0 := by omega
     have hst := Lib.hid (prunIx_no (prunAt_zero L (spotsT g t slot0 1)))
     subst hk00
     simp only [Nat.zero_mul, Nat.add_zero] at f0 f1 f2 f3 f4 f5 f6 f7
     go_wp2
     go_roundw
     case rel => exact ⟨0 + 1, by omega, by go_num, by rw [hst.out]; exact ⟨A7, c7, rfl, ho7.alloc _, hf7.alloc _⟩⟩
     case measure => simp [intOf]; omega
   ·have hkt : k = t.nodes := by omega
    subst hkt
    go_wp2
    go_ret2
    rw [hE.out, HSL.out]
    exact ⟨A7, c7, rfl, hF3.trans hf7, own_base ho7 hF3.size⟩
 ·have hE := Lib.hid (prunOf_err hez)
  have hd : (chkT g L t != 0) = true := by simpa using hez
  have hez := Lib.hid hez
  generalize chkT g L t = ev at *
  go_wp2
  go_ret2
  rw [hE.out]
  exact ⟨none, 0, rfl, hF1, World.ownsRow_nil _ _ _ 1⟩
end

/- A tree made of another one, by what becomes of each node: plain; the program's closure that prunes. -/
section
open Go.RowKit
abbrev Dec := Nat → Sl → Option (List T)
abbrev NodeA := Sl → Nat → List T × Nat
def edStep (s : Sl) (st : List T × Nat) (f : NodeA) : List T × Nat := (st.1 ++ (f s st.2).1, (f s st.2).2)
def edRow (st : List (List T) × Nat) (p : Sl × List NodeA) : List (List T) × Nat := (st.1 ++ [(p.2.foldl (edStep p.1) ([], st.2)).1], (p.2.foldl (edStep p.1) ([], st.2)).2)
def nodeEF (g : List Ru) (dec : Dec) (t : T) (rows : List (List NodeA)) (s : Sl) (n : Nat) : List T × Nat :=
  match dec n s with
  | some l => (l, n + t.nodes)
  | none => match ruleAt g t.kind with
    | none => ([], n)
    | some r => ([.mk t.kind t.text ((r.slots.zip rows).foldl edRow ([], n + 1)).1], ((r.slots.zip rows).foldl edRow ([], n + 1)).2)
def nodeE (g : List Ru) (dec : Dec) : T → NodeA := T.para (nodeEF g dec)
def edX (g : List Ru) (dec : Dec) (s : Sl) (st : List T × Nat) (x : T) : List T × Nat := (st.1 ++ (nodeE g dec x s st.2).1, (nodeE g dec x s st.2).2)
def edP (g : List Ru) (dec : Dec) (st : List (List T) × Nat) (p : Sl × List T) : List (List T) × Nat := (st.1 ++ [(p.2.foldl (edX g dec p.1) ([], st.2)).1], (p.2.foldl (edX g dec p.1) ([], st.2)).2)
section
variable {g : List Ru} {dec : Dec} {t : T} {r : Ru} {s : Sl} {n : Nat}
theorem nodeE_some {l : List T} (h : dec n s = some l) : nodeE g dec t s n = (l, n + t.nodes) := by
 unfold nodeE
 rw [T.para_eq]
 unfold nodeEF
 rw [h]
theorem nodeE_none (h : dec n s = none) (hr : ruleAt g t.kind = some r) : nodeE g dec t s n = ([.mk t.kind t.text ((r.slots.zip t.slots).foldl (edP g dec) ([], n + 1)).1], ((r.slots.zip t.slots).foldl (edP g dec) ([], n + 1)).2) := by
  have hz : ∀ (S : List Sl) (Q : List (List T)) (st : List (List T) × Nat), (S.zip (Q.map (·.map (nodeE g dec)))).foldl edRow st = (S.zip Q).foldl (edP g dec) st := by
    intro S
    induction S with
    | nil => intro Q st; rfl
    | cons s S ih =>
      intro Q st
      cases Q with
      | nil => rfl
      | cons q Q =>
        show (S.zip (Q.map (·.map (nodeE g dec)))).foldl edRow (edRow st (s, q.map (nodeE g dec))) = _
        have e : edRow st (s, q.map (nodeE g dec)) = edP g dec st (s, q) := by
          unfold edRow edP
          rw [List.foldl_map]
          rfl
        rw [ih, e]
        rfl
  conv => lhs; unfold nodeE
  rw [T.para_eq]
  show nodeEF g dec t (t.slots.map (·.map (nodeE g dec))) s n = _
  unfold nodeEF
  rw [h, hr]
  show ([T.mk t.kind t.text ((r.slots.zip (t.slots.map (·.map (nodeE g dec)))).foldl edRow ([], n + 1)).1], _) = _
  rw [hz]
end
def decP (g : List Ru) (L : List Int) (at_ : List Int) : Dec := fun n s => if (n : Int) ∈ at_ then (if s.many = 0 then some [leastT g L (lowestL L s.kinds)] else some []) else none
def RetDec (m : Nat) (w : World) (d : Option (List T)) (e : Ending) (w' : World) : Prop :=
 ∃ A c, e = .returned (.tuple #[.slice A (d.getD []).length c, .bool d.isSome]) ∧ Fr [] w w' ∧ RowAt (fun k => k < w.heap.size) m w' A c (d.getD [])
set_option maxRecDepth 20000 in
set_option maxHeartbeats 3200000 in
theorem pruned1_any (A B D E : Option Addr) (c cb cd ce b3 b5 b7 : Nat) (g : List Ru) (L at_ : List Int) (n : Nat) (s : Sl) (w : World) (ha : RRu w A c g) (hok : LOk g L) (hLr : Rd w (.int .i64) D cd L) (hat : Rd w (.int .i64) E ce at_) (hb : Rd w (.int .i64) B cb s.kinds)
  (h5 : w.cell? ⟨b5, 0, none⟩ = some (.slice E at_.length ce)) (h3 : w.cell? ⟨b3, 0, none⟩ = some (.slice A g.length c)) (h7 : w.cell? ⟨b7, 0, none⟩ = some (.slice D g.length cd))
  (hk : (n : Int) ∈ at_ → s.many = 0 → KOk g.length s ∧ getI L (lowestL L s.kinds) ≤ 1024) :
  Calls Tryz.prog 72 #[.int .i64 (n : Nat), .agg #[.int .u8 s.many, .slice B s.kinds.length cb, .string s.between], .pointer (some ⟨b5, 0, none⟩), .pointer (some ⟨b3, 0, none⟩), .pointer (some ⟨b7, 0, none⟩)] w (RetDec 1024 w (decP g L at_ n s)) := by
 have hlen : Hid (L.length = g.length) := hok.sz.1
 obtain ⟨mv, hmv⟩ : ∃ mv, s.many = mv := ⟨_, rfl⟩
 have hD : Hid (decP g L at_ n s = if (n : Int) ∈ at_ then (if mv = 0 then some [leastT g L (lowestL L s.kinds)] else some []) else none) := by show _ = _; rw [← hmv]; rfl
 rw [hmv] at hk ⊢
 clear hmv
 obtain ⟨W, hW⟩ : ∃ W, W = w.alloc (.cells #[.int .u8 mv, .slice B s.kinds.length cb, .string s.between] 55) := ⟨_, rfl⟩
 have hF : Fr [] w W := by rw [hW]; exact frx
 have hBk : Blk W w.heap.size 55 #[.int .u8 mv, .slice B s.kinds.length cb, .string s.between] := by rw [hW]; exact Blk.new _ _ _ _ rfl
 have h5W := hF.cell h5 (by simp)
 have h5' := h5W
 rw [hW] at h5'
 have HW := Lib.hid hW.symm
 clear hW
 by_cases hm : (n : Int) ∈ at_
 ·by_cases hz : mv = 0
  ·subst hz
   obtain ⟨⟨hk0, hkr⟩, hle⟩ := hk hm rfl
   have hlm := hkr _ (lowest_mem (L := L) hk0)
   obtain ⟨j, hj⟩ : ∃ j : Nat, lowestL L s.kinds = j := ⟨(lowestL L s.kinds).toNat, by omega⟩
   rw [hj] at hle hlm
   have hjl : j < g.length := by omega
   have hE : Hid (decP g L at_ n s = some [leastT g L (j : Int)]) := by show _ = _; rw [hD.out, if_pos hm, if_pos rfl, hj]
   obtain ⟨m, hm2⟩ : ∃ m : Nat, (getI L (j : Int)).toNat = m := ⟨_, rfl⟩
   have hT : Hid (leastT g L (j : Int) = leastF g L m (j : Int)) := by show _ = _; unfold leastT; rw [hm2]
   have HJ := Lib.hid hj
   have HK0 := Lib.hid hk0
   have HKR := Lib.hid hkr
   have hdm : decide ((n : Int) ∈ at_) = true := by simpa using hm
   have hm := Lib.hid hm
   clear hk hk0 hkr hj hD
   go_enter Tryz.func72, Tryz.ntmps72
   go_wp2_with fail
   rw [HW.out]
   clear h5'
   refine (has_any E ce at_ (n : Int) _ (hat.fr0 hF)).mono ?_
   rw [hdm]
   rintro e w1 ⟨rfl, n1, rfl⟩
   have q0 := hBk.cell 0 rfl
   have q1 := hBk.cell 1 rfl
   have h3W := hF.cell h3 (by simp)
   have h7W := hF.cell h7 (by simp)
   go_wp2_with fail
   go_region_held3 (fun w' => w'.cell? ⟨b3, 0, none⟩ = some (.slice A g.length c) ∧ w'.cell? ⟨b7, 0, none⟩ = some (.slice D g.length cd) ∧ w'.cell? ⟨w.heap.size, 1, none⟩ = some (.slice B s.kinds.length cb))
    (first
     | (go_keep; done)
     | exact ⟨hFb.cell h3W (by simp), hFb.cell h7W (by simp), hFb.cell q1 (by simp)⟩
     | exact ⟨(hFb.alloc _).cell h3W (by simp), (hFb.alloc _).cell h7W (by simp), (hFb.alloc _).cell q1 (by simp)⟩)
    (first
     | (go_at_call 71; refine (lowestn_any g.length D B cd cb L s.kinds _ hlen.out (hLr.fr0 (Fr.trans hF frx)) (hb.fr0 (Fr.trans hF frx)) HK0.out HKR.out).mono ?_; rw [HJ.out]; rintro e wa ⟨rfl, na, rfl⟩)
     | (go_at_call 50; refine (least_any A D c cd g L hok m j _ (ha.fr0 (Fr.trans hF frx)) (hLr.fr0 (Fr.trans hF frx)) hjl (by omega) (by unfold MUCH; omega)).mono ?_; rw [← hT.out]; rintro e wb ⟨A7, c7, rfl, hfb, hR7⟩; have hFb : Fr [] W wb := (Fr.trans frx hfb)))
   have hzb := hFb.size
   have hzW := hF.size
   have hRx : RH (fun k => k < w.heap.size) m wb A7 c7 (leastT g L (j : Int)) := RH.sub (S := fun k => k < W.heap.size) hR7 fun k _ hk => Nat.lt_of_lt_of_le hk hzW
   have hRow : RowAt (fun k => k < w.heap.size) m (wb.alloc (.cells (tcells (leastT g L (j : Int)) A7 c7) 27)) (some ⟨wb.heap.size, 0, none⟩) 1 [leastT g L (j : Int)] := RowAt.one (by omega) hRx
   go_wp2_with fail
   go_ret2
   rw [hE.out]
   exact ⟨_, _, rfl, (hF.trans hFb).alloc _, RowAt.imp hRow (fun _ _ h => h) (fun _ _ _ h => h) (by omega)⟩
  ·have hE : Hid (decP g L at_ n s = some []) := by show _ = _; rw [hD.out, if_pos hm, if_neg hz]
   have hdm : decide ((n : Int) ∈ at_) = true := by simpa using hm
   have hd : (mv == 0) = false := by simpa using hz
   have hm := Lib.hid hm
   have hz := Lib.hid hz
   clear hk hD
   go_enter Tryz.func72, Tryz.ntmps72
   go_wp2_with fail
   rw [HW.out]
   clear h5'
   refine (has_any E ce at_ (n : Int) _ (hat.fr0 hF)).mono ?_
   rw [hdm]
   rintro e w1 ⟨rfl, n1, rfl⟩
   have q0 := hBk.cell 0 rfl
   go_wp2
   go_ret2
   rw [hE.out]
   exact ⟨none, 0, rfl, hF.drewN _, RowAt.nil_⟩
 ·have hE : Hid (decP g L at_ n s = none) := by show _ = _; rw [hD.out, if_neg hm]
  have hdm : decide ((n : Int) ∈ at_) = false := by simpa using hm
  have hm := Lib.hid hm
  clear hk hD
  go_enter Tryz.func72, Tryz.ntmps72
  go_wp2_with fail
  rw [HW.out]
  clear h5'
  refine (has_any E ce at_ (n : Int) _ (hat.fr0 hF)).mono ?_
  rw [hdm]
  rintro e w1 ⟨rfl, n1, rfl⟩
  go_wp2
  go_ret2
  rw [hE.out]
  exact ⟨none, 0, rfl, hF.drewN _, RowAt.nil_⟩
end

/- node of the program's editor. -/
section
open Go.RowKit
theorem ed_row_snd {g : List Ru} {dec : Dec} (s : Sl) (k : Nat) : ∀ (q : List T) (st : List T × Nat) (a : Nat), (∀ x ∈ q, ∀ s n, (nodeE g dec x s n).2 = n + x.nodes) → st.2 = k + a → (q.foldl (edX g dec s) st).2 = k + q.foldl nstN a
  | [], _, _, _, h => h
  | x :: q, st, a, hx, h => by
    refine ed_row_snd s k q _ _ (fun y hy => hx y (by simp [hy])) ?_
    have := hx x (by simp) s st.2
    simp only [edX, nstN]
    omega
theorem ed_rows_snd {g : List Ru} {dec : Dec} (k : Nat) : ∀ (S : List Sl) (Q : List (List T)) (st : List (List T) × Nat) (a : Nat), S.length = Q.length → (∀ q ∈ Q, ∀ x ∈ q, ∀ s n, (nodeE g dec x s n).2 = n + x.nodes) → st.2 = k + a → ((S.zip Q).foldl (edP g dec) st).2 = k + fold2 nstN a Q
  | [], [], _, _, _, _, h => h
  | [], _ :: _, _, _, hl, _, _ => by simp at hl
  | _ :: _, [], _, _, hl, _, _ => by simp at hl
  | s :: S, q :: Q, st, a, hl, hQ, h => by
    refine ed_rows_snd k S Q _ _ (by simpa using hl) (fun q' hq' => hQ q' (by simp [hq'])) ?_
    exact ed_row_snd s k q ([], st.2) a (hQ q (by simp)) h
theorem nodeE_snd {g : List Ru} {dec : Dec} (t : T) : Val g t → ∀ (s : Sl) (n : Nat), (nodeE g dec t s n).2 = n + t.nodes := by
  induction t using T.ind with
  | h t ih =>
    intro hv s n
    obtain ⟨r, hr, _, hlen, _, _, hsub⟩ := val_parts hv
    rcases hd : dec n s with _ | l
    · rw [nodeE_none hd hr, T.nodes_eq]
      exact ed_rows_snd n r.slots t.slots _ 1 hlen.symm (fun q hq x hx s n => ih q hq x hx (hsub q hq x hx) s n) rfl
    · rw [nodeE_some hd]
theorem nodeE_mono {g : List Ru} {dec : Dec} (t : T) : ∀ (s : Sl) (n : Nat), n ≤ (nodeE g dec t s n).2 := by
  induction t using T.ind with
  | h t ih =>
    intro s n
    rcases hd : dec n s with _ | l
    · rcases hr : ruleAt g t.kind with _ | r
      · unfold nodeE
        rw [T.para_eq]
        unfold nodeEF
        rw [hd, hr]
        exact Nat.le_refl _
      · rw [nodeE_none hd hr]
        have hrow : ∀ (s : Sl) (q : List T) (st : List T × Nat), (∀ x ∈ q, ∀ s n, n ≤ (nodeE g dec x s n).2) → st.2 ≤ (q.foldl (edX g dec s) st).2 := by
          intro s q
          induction q with
          | nil => intro st _; exact Nat.le_refl _
          | cons x q ihq =>
            intro st hx
            exact Nat.le_trans (hx x (by simp) s st.2) (ihq (edX g dec s st x) fun y hy => hx y (by simp [hy]))
        have hrows : ∀ (Z : List (Sl × List T)) (st : List (List T) × Nat), (∀ z ∈ Z, ∀ x ∈ z.2, ∀ s n, n ≤ (nodeE g dec x s n).2) → st.2 ≤ (Z.foldl (edP g dec) st).2 := by
          intro Z
          induction Z with
          | nil => intro st _; exact Nat.le_refl _
          | cons z Z ihZ =>
            intro st hz
            exact Nat.le_trans (hrow z.1 z.2 ([], st.2) (hz z (by simp))) (ihZ (edP g dec st z) fun y hy => hz y (by simp [hy]))
        have := hrows (r.slots.zip t.slots) ([], n + 1) (fun z hz x hx => ih z.2 (List.of_mem_zip hz).2 x hx)
        exact Nat.le_trans (Nat.le_succ n) this
    · rw [nodeE_some hd]
      exact Nat.le_add_right _ _
theorem edX_mono {g : List Ru} {dec : Dec} (s : Sl) (st : List T × Nat) (x : T) : st.2 ≤ (edX g dec s st x).2 := nodeE_mono x s st.2
theorem edP_mono {g : List Ru} {dec : Dec} (st : List (List T) × Nat) (p : Sl × List T) : st.2 ≤ (edP g dec st p).2 :=
 fold_inc (m := fun st : List T × Nat => st.2) (fun b x => edX_mono p.1 b x) p.2 ([], st.2)
theorem nodeE_one {g : List Ru} {dec : Dec} (h1 : ∀ n s l, dec n s = some l → l.length ≤ 1) (t : T) (s : Sl) (n : Nat) : (nodeE g dec t s n).1.length ≤ 1 := by
 rcases hd : dec n s with _ | l
 ·rcases hr : ruleAt g t.kind with _ | r
  ·unfold nodeE
   rw [T.para_eq]
   unfold nodeEF
   rw [hd, hr]
   exact Nat.zero_le _
  ·rw [nodeE_none hd hr]
   exact Nat.le_refl _
 ·rw [nodeE_some hd]
  exact h1 n s l hd
theorem ed_row_len {g : List Ru} {dec : Dec} (h1 : ∀ n s l, dec n s = some l → l.length ≤ 1) (s : Sl) : ∀ (q : List T) (st : List T × Nat), (q.foldl (edX g dec s) st).1.length ≤ st.1.length + q.length
  | [], _ => Nat.le_refl _
  | x :: q, st => by
    have h2 := ed_row_len (g := g) h1 s q (edX g dec s st x)
    have h3 := nodeE_one (g := g) h1 x s st.2
    have h4 : (edX g dec s st x).1.length = st.1.length + (nodeE g dec x s st.2).1.length := by simp [edX]
    rw [List.foldl_cons, List.length_cons]
    omega
theorem ed_rows_len {g : List Ru} {dec : Dec} : ∀ (Z : List (Sl × List T)) (st : List (List T) × Nat), (Z.foldl (edP g dec) st).1.length = st.1.length + Z.length
  | [], _ => rfl
  | z :: Z, st => by
    rw [List.foldl_cons, ed_rows_len Z, List.length_cons]
    simp [edP]
    omega
theorem nst_len : ∀ (q : List T) (a : Nat), a + q.length ≤ q.foldl nstN a
  | [], _ => Nat.le_refl _
  | x :: q, a => by
    have h1 := nst_len q (nstN a x)
    have h2 := x.nodes_pos
    rw [List.foldl_cons, List.length_cons]
    simp only [nstN] at *
    omega
theorem row_few {t : T} {i : Nat} {q : List T} (h : Hid (t.slots[i]? = some q)) : q.length ≤ t.nodes := by
 have h1 := nodes_in h q.length
 rw [List.take_of_length_le (Nat.le_refl _)] at h1
 have h2 := nst_len q (fold2 (fun n (x : T) => n + x.nodes) 1 (t.slots.take i))
 exact Nat.le_trans (Nat.le_trans (Nat.le_add_left _ _) h2) h1
theorem fr_w0 {E : Nat} {a b c : World} (h : Fr [] a b) (k : Fr [E] b c) (hE : a.heap.size ≤ E) : Fr [] a c := h.trans2 k fun x hx => .inr (by simp at hx; omega)
theorem grown_keep {w w' : World} {A : Option Addr} {k c : Nat} (hg : w.grownBy w' (Value.slice A k c).ownBlock) {p : Addr} {u : Value} (hu : w.cell? p = some u) (hp : ∀ a, A = some a → p.block ≠ a.block) : w'.cell? p = some u :=
 grown_cell (base := 0) hg (fun hb => by
  rcases hb with hb | ⟨a, ha, hb⟩
  ·omega
  ·exact hp a ha hb.symm) hu
abbrev TE : TypeId := 129
def RetNode (m E : Nat) (w : World) (c0 F : Value) (r : List T × Nat) (e : Ending) (w' : World) : Prop :=
 ∃ A c, e = .returned (.slice A r.1.length c) ∧ Fr [E] w w' ∧ RowAt (fun k => k < w.heap.size) m w' A c r.1 ∧ Blk w' E TE #[c0, .int .i64 (r.2 : Nat), F]
def AskOk (g : List Ru) (n : Nat) (s : Sl) : Prop := (n = 0 ∧ s = slot0) ∨ (0 < n ∧ KOk g.length s)
theorem encT_len (G : List TreeH) : (G.flatMap encT).length = G.length * 3 := by
 induction G with
 | nil => rfl
 | cons p G ih => rw [List.flatMap_cons, List.length_append, ih]; simp [encT]; omega
theorem encT_one (G : List TreeH) : ∀ u ∈ G.flatMap encT, u.oneCell' = true := fun u hu => by
 obtain ⟨p, _, hp⟩ := List.mem_flatMap.1 hu
 simp [encT] at hp
 rcases hp with rfl | rfl | rfl <;> rfl
theorem encT_from : ∀ (G : List TreeH) (j : Nat) (u : Value), (G.flatMap encT)[j]? = some u → ∃ p, G[j / 3]? = some p ∧ (encT p)[j % 3]? = some u
  | [], j, u, h => by simp at h
  | q :: G, j, u, h => by
    rw [List.flatMap_cons] at h
    by_cases hj : j < 3
    · rw [List.getElem?_append_left (by simp [encT]; exact hj)] at h
      exact ⟨q, by rw [Nat.div_eq_of_lt hj]; rfl, by rw [Nat.mod_eq_of_lt hj]; exact h⟩
    · rw [List.getElem?_append_right (by simp [encT]; omega)] at h
      obtain ⟨p, h1, h2⟩ := encT_from G (j - 3) u (by simpa [encT] using h)
      refine ⟨p, ?_, ?_⟩
      · rw [show j / 3 = (j - 3) / 3 + 1 by omega]
        exact h1
      · rw [show j % 3 = (j - 3) % 3 by omega]
        exact h2
theorem RowAt.heads {S : Nat → Prop} {n : Nat} {w : World} {A : Option Addr} {c : Nat} {l : List T} (h : RowAt S n w A c l) : ∃ G : List TreeH, G.map (·.1) = l ∧ Cells w A (G.flatMap encT) ∧ ∀ p ∈ G, RH S n w p.2.1 p.2.2 p.1 := by
 rcases Nat.eq_zero_or_pos l.length with h0 | h0
 ·have : l = [] := List.eq_nil_of_length_eq_zero h0
  subst this
  exact ⟨[], rfl, fun h => by simp at h, by simp⟩
 ·obtain ⟨b, off, hA, _, hx⟩ := h.at0 h0
  have hex : ∀ k : Fin l.length, ∃ hd : Option Addr × Nat, w.cell? ⟨b, off + k.1 * 3, none⟩ = some (.int .i64 l[k.1].kind) ∧ w.cell? ⟨b, off + k.1 * 3 + 1, none⟩ = some (.string l[k.1].text) ∧ w.cell? ⟨b, off + k.1 * 3 + 2, none⟩ = some (.slice hd.1 l[k.1].slots.length hd.2) ∧ RH S n w hd.1 hd.2 l[k.1] := fun k => by
   obtain ⟨h1, h2, A', c', h3, h4⟩ := hx k.1 _ (List.getElem?_eq_getElem k.2)
   exact ⟨(A', c'), h1, h2, h3, h4⟩
  obtain ⟨hd, hch⟩ : ∃ hd : Fin l.length → Option Addr × Nat, ∀ k : Fin l.length, w.cell? ⟨b, off + k.1 * 3, none⟩ = some (.int .i64 l[k.1].kind) ∧ w.cell? ⟨b, off + k.1 * 3 + 1, none⟩ = some (.string l[k.1].text) ∧ w.cell? ⟨b, off + k.1 * 3 + 2, none⟩ = some (.slice (hd k).1 l[k.1].slots.length (hd k).2) ∧ RH S n w (hd k).1 (hd k).2 l[k.1] :=
   ⟨fun k => Classical.choose (hex k), fun k => Classical.choose_spec (hex k)⟩
  refine ⟨List.ofFn fun k : Fin l.length => (l[k.1], hd k), ?_, fun _ => ⟨b, off, hA, fun j u hu => ?_⟩, fun p hp => ?_⟩
  ·refine List.ext_getElem (by simp) fun i h1 h2 => ?_
   simp
  ·obtain ⟨p, hp, hu⟩ := encT_from _ j u hu
   have hjl : j / 3 < l.length := by
    have := (List.getElem?_eq_some_iff.1 hp).1
    simpa using this
   have hp : (l[j / 3], hd ⟨j / 3, hjl⟩) = p := by simpa [List.getElem?_ofFn, hjl] using hp
   subst hp
   obtain ⟨h1, h2, h3, _⟩ := hch ⟨j / 3, hjl⟩
   have hj : j = j / 3 * 3 + j % 3 := by omega
   rcases (by omega : j % 3 = 0 ∨ j % 3 = 1 ∨ j % 3 = 2) with e | e | e
   ·rw [e] at hu hj
    have hu : Value.int .i64 l[j / 3].kind = u := by simpa [encT] using hu
    rw [← hu]
    have h1 : w.cell? ⟨b, off + j / 3 * 3, none⟩ = _ := h1
    rw [show off + j = off + j / 3 * 3 by omega]
    exact h1
   ·rw [e] at hu hj
    have hu : Value.string l[j / 3].text = u := by simpa [encT] using hu
    rw [← hu]
    have h2 : w.cell? ⟨b, off + j / 3 * 3 + 1, none⟩ = _ := h2
    rw [show off + j = off + j / 3 * 3 + 1 by omega]
    exact h2
   ·rw [e] at hu hj
    have hu : Value.slice (hd ⟨j / 3, hjl⟩).1 l[j / 3].slots.length (hd ⟨j / 3, hjl⟩).2 = u := by simpa [encT] using hu
    rw [← hu]
    have h3 : w.cell? ⟨b, off + j / 3 * 3 + 2, none⟩ = _ := h3
    rw [show off + j = off + j / 3 * 3 + 2 by omega]
    exact h3
  ·obtain ⟨k, rfl⟩ := List.mem_ofFn.1 hp
   exact (hch k).2.2.2
theorem elemTrees : Elem Tryz.prog 59 27 (.agg #[.int .i64 0, .string ⟨#[]⟩, .slice none 0 0]) 3 48 := ⟨Tryz.underlying59, by kernel_rfl, by kernel_rfl, by omega, by omega⟩
set_option maxRecDepth 20000 in
set_option maxHeartbeats 6400000 in
theorem node_any (A : Option Addr) (c : Nat) (g : List Ru) (hg : RulesOk g) (w0 : World) (ha : RRu w0 A c g) (E : Nat) (hE : w0.heap.size ≤ E) (f : FuncId) (caps : Array Value) (hgc : ∀ (args : Array Value) (w : World), (callFunc f args).run Tryz.prog w = .ok (.enter f args) w) (m0 : Nat) (dec : Dec) (h1d : ∀ n s l, dec n s = some l → l.length ≤ 1)
    (HF : ∀ (w' : World) (n : Nat) (s : Sl) (B : Option Addr) (cb : Nat), Fr [] w0 w' → Rd w0 (.int .i64) B cb s.kinds → AskOk g n s → Calls Tryz.prog f (#[.int .i64 (n : Nat), .agg #[.int .u8 s.many, .slice B s.kinds.length cb, .string s.between]] ++ caps) w' (RetDec m0 w' (dec n s))) (nn : Nat) :
    ∀ (t : T) (AT : Option Addr) (cT : Nat) (S : Nat → Prop) (s : Sl) (B : Option Addr) (cb n : Nat) (w : World), RH S nn w0 AT cT t → Fr [] w0 w → Blk w E TE #[.slice A g.length c, .int .i64 (n : Nat), .func (.func f) #[] caps] → Rd w0 (.int .i64) B cb s.kinds → Val g t → AskOk g n s → n + t.nodes ≤ 100000 →
    Calls Tryz.prog 73 #[.pointer (some ⟨E, 0, none⟩), .agg (tcells t AT cT), .agg #[.int .u8 s.many, .slice B s.kinds.length cb, .string s.between]] w (RetNode (nn + m0) E w (.slice A g.length c) (.func (.func f) #[] caps) (nodeE g dec t s n)) := by
  induction nn with
  | zero => intro t AT cT S s B cb n w h; exact absurd h id
  | succ nn ih =>
    intro t AT cT S s B cb n w hR hf0 hBE hks hval hask hn
    have hRR := hR
    have hR : RowsB S (fun A c x => RH S nn w0 A c x) w0 AT cT t.slots := hR
    have hl1 := hR.bound
    obtain ⟨W2, hW2⟩ : ∃ W, W = (w.alloc (.cells (tcells t AT cT) 27)).alloc (.cells #[.int .u8 s.many, .slice B s.kinds.length cb, .string s.between] 55) := ⟨_, rfl⟩
    have hF2 : Fr [] w W2 := by rw [hW2]; exact frx
    have hB1 : Blk W2 w.heap.size 27 (tcells t AT cT) := by rw [hW2]; exact (Blk.new w _ _ _ rfl).alloc _
    have hB2 : Blk W2 (w.heap.size + 1) 55 #[.int .u8 s.many, .slice B s.kinds.length cb, .string s.between] := by rw [hW2]; exact Blk.new _ _ _ _ (by simp)
    have hE2 := hBE.fr hF2 (by simp)
    have hEl := hBE.lt
    have x1 := hE2.cell 1 rfl
    have x2 := hE2.cell 2 rfl
    have s0 := hB2.cell 0 rfl
    have s1 := hB2.cell 1 rfl
    have s2 := hB2.cell 2 rfl
    have x1' := x1
    rw [hW2] at x1'
    have HW2 := Lib.hid hW2.symm
    clear hW2
    go_enter Tryz.func73, Tryz.ntmps73
    go_wp2_with fail
    rw [HW2.out]
    clear x1'
    go_region_held3 (fun w' => w'.cell? ⟨E, 2, none⟩ = some (.func (.func f) #[] caps) ∧ w'.cell? ⟨w.heap.size + 1, 0, none⟩ = some (.int .u8 s.many) ∧ w'.cell? ⟨w.heap.size + 1, 1, none⟩ = some (.slice B s.kinds.length cb) ∧ w'.cell? ⟨w.heap.size + 1, 2, none⟩ = some (.string s.between))
      (first
        | (go_keep; done)
        | exact ⟨hFa.cell x2 (by simp), hFa.cell s0 (by simp), hFa.cell s1 (by simp), hFa.cell s2 (by simp)⟩)
      (first
        | (refine (HF _ n s B cb (hf0.trans (hF2.trans frx)) hks hask).mono ?_; rintro e wa ⟨A5, c5, rfl, hfa, hR5⟩; have hFa : Fr [] W2 wa := (Fr.trans frx hfa)))
    have hEa := hE2.fr hFa (by simp)
    have hB1a := hB1.fr hFa (by simp)
    have x1 := hEa.cell 1 rfl
    have x1f := hEa.frozen 1
    have p0 := hB1a.cell 0 rfl
    have p1 := hB1a.cell 1 rfl
    have p2 := hB1a.cell 2 rfl
    have hFwa := hF2.trans hFa
    have hRa : RowAt (fun k => k < w.heap.size) m0 wa A5 c5 ((dec n s).getD []) := RowAt.sub (S := fun k => k < W2.heap.size) hR5 fun k _ hk => Nat.lt_of_lt_of_le hk hF2.size
    have hsnd := Lib.hid (nodeE_snd (g := g) (dec := dec) t hval s n)
    clear hR5
    rcases hd : dec n s with _ | l
    · rw [hd] at hRa
      have HD := Lib.hid hd
      obtain ⟨r, hru, h16, hlen, _, _, hsub⟩ := val_parts hval
      obtain ⟨kk, hkk, hgk, hkl⟩ := ruleAt_some hru
      obtain ⟨b, off, r', A1, c1, rfl, hr, e0, e1, e2, e3, hSl⟩ := ha.at_ hkl
      obtain rfl : r = r' := Option.some.inj (hgk.symm.trans hr.out)
      have hsb := hSl.bound
      have hgb := ha.bound
      have hEq := Lib.hid (nodeE_none (g := g) (t := t) (s := s) hd hru)
      have hKR := hg.kinds r (List.mem_of_getElem? hgk)
      have HKR := Lib.hid hKR
      have hfew : r.slots.length ≤ 8 := (hg.head r (List.mem_of_getElem? hgk)).2.2
      have HLEN := Lib.hid hlen
      have HSUB := Lib.hid hsub
      have HKK := Lib.hid hkk
      have HTOT : Hid (∀ i, (((r.slots.zip t.slots).take i).foldl (edP g dec) ([], n + 1)).2 ≤ n + t.nodes ∧ n + 1 ≤ (((r.slots.zip t.slots).take i).foldl (edP g dec) ([], n + 1)).2) := fun i => by
        have h1 := fold_take_le (m := fun st : List (List T) × Nat => st.2) (edP_mono (g := g) (dec := dec)) (r.slots.zip t.slots) ([], n + 1) i
        have h2 := fold_inc (m := fun st : List (List T) × Nat => st.2) (edP_mono (g := g) (dec := dec)) ((r.slots.zip t.slots).take i) ([], n + 1)
        have h3 := hsnd.out
        rw [hEq.out] at h3
        have h3 : ((r.slots.zip t.slots).foldl (edP g dec) ([], n + 1)).2 = n + t.nodes := h3
        exact ⟨by have h1 : _ ≤ ((r.slots.zip t.slots).foldl (edP g dec) ([], n + 1)).2 := h1
                  omega, h2⟩
      clear hd hru hgk hkk hsub hlen hKR
      clear p0
      have p0 : wa.cell? ⟨w.heap.size, 0, none⟩ = some (.int .i64 (kk : Int)) := by rw [← HKK.out]; exact hB1a.cell 0 rfl
      obtain ⟨W5, hW5⟩ : ∃ W, W = (wa.setCell ⟨E, 1, none⟩ (.int .i64 ((n : Int) + 1))).alloc (.cells #[.int .i64 (kk : Int), .string t.text, .slice none 0 0] 27) := ⟨_, rfl⟩
      have hFs5 : Fr [E] wa W5 := by rw [hW5]; exact ((Fr.refl _ _).setCell (.inl (by simp)) _).alloc _
      have hE5 : Blk W5 E TE #[.slice (some ⟨b, off, none⟩) g.length c, .int .i64 ((n + 1 : Nat) : Int), .func (.func f) #[] caps] := by
        rw [hW5]
        have := (hEa.set_ 1 (.int .i64 ((n : Int) + 1))).alloc (.cells #[.int .i64 (kk : Int), .string t.text, .slice none 0 0] 27)
        simpa using this
      have hwz : w.heap.size < wa.heap.size := by have := hB1a.lt; exact this
      have hB15 := hB1a.fr hFs5 (by simp; omega)
      have hBO : Blk W5 wa.heap.size 27 #[.int .i64 (kk : Int), .string t.text, .slice none 0 0] := by rw [hW5]; exact Blk.new _ _ _ _ (by simp)
      have hF5 : Fr [E] w W5 := (hFwa.mono (by simp)).trans hFs5
      have HW5 := Lib.hid hW5.symm
      have o2 := hB15.cell 2 rfl
      rw [hW5] at o2
      clear hW5
      go_wp2_with fail
      rw [HW5.out]
      clear o2 x1 x1f p0 p1 p2 hEa hB1a
      have hEo : E < wa.heap.size := Nat.lt_of_lt_of_le hEl hFwa.size
      go_loopw [56] (fun i wr => ∃ (k : Nat) (AO : Option Addr) (cO : Nat) (G : List RowH), k ≤ t.slots.length ∧ i = .int .i64 k ∧ Hid (G.map (·.1) = (((r.slots.zip t.slots).take k).foldl (edP g dec) ([], n + 1)).1) ∧ GR (nn + m0) (wa.heap.size + 1) wr AO cO G ∧
        Blk wr E TE #[.slice (some ⟨b, off, none⟩) g.length c, .int .i64 (((((r.slots.zip t.slots).take k).foldl (edP g dec) ([], n + 1)).2 : Nat) : Int), .func (.func f) #[] caps] ∧ Blk wr w.heap.size 27 (tcells t AT cT) ∧
        Blk wr wa.heap.size 27 #[.int .i64 (kk : Int), .string t.text, .slice AO G.length cO] ∧ Fr [E] w wr) (fun i _ => t.slots.length - (intOf i).toNat)
      case atStart => exact ⟨0, none, 0, [], Nat.zero_le _, rfl, rfl, GR.nil_ _ _ _, hE5, hB15, hBO, hF5⟩
      case round =>
        clear hE5 hB15 hBO hF5
        obtain ⟨k, AO, cO, G, hk, rfl, hGm, hGR, hE6, hB6, hBO, hf⟩ := hrel
        have hFW0 : Fr [] w0 wr := fr_w0 hf0 hf hE
        obtain ⟨hk1, hk2⟩ := HTOT.out k
        by_cases hlt : k < t.slots.length
        · obtain ⟨b2, off2, s', A4, c4, rfl, hs, hm, s0, s1, hks', s2⟩ := hSl.at_ (k := k) (by rw [← HLEN.out]; exact hlt)
          have hkr : k < r.slots.length := by rw [← HLEN.out]; exact hlt
          obtain ⟨b4, off4, q, A6, c6, rfl, hq, hc, hRow, hlq⟩ := hR.at_ (i := k) hlt
          have hc := hFW0.cell hc (by simp)
          have HZP := Lib.hid (fold_take (f := edP g dec) (b := ([], n + 1)) (show Hid ((r.slots.zip t.slots)[k]? = some (s', q)) from zip_at hs hq))
          have hGl : G.length ≤ k := by
            have h1 := congrArg List.length hGm.out
            rw [List.length_map, ed_rows_len, List.length_take] at h1
            have h2 : ([] : List (List T)).length = 0 := rfl
            rw [h2] at h1
            omega
          have hko : Hid (KOk g.length s') := HKR.out s' (List.mem_of_getElem? hs.out)
          obtain ⟨hk3, _⟩ := HTOT.out (k + 1)
          rw [HZP.out] at hk3
          have HQ := Lib.hid (HSUB.out q (List.mem_of_getElem? hq.out))
          have hqn := row_few hq
          generalize ((r.slots.zip t.slots).take k).foldl (edP g dec) ([], n + 1) = st at *
          obtain ⟨V, rfl⟩ : ∃ V, V = wr := ⟨wr, rfl⟩
          go_wp2_with fail
          go_loopw [13, 63] (fun v j wr => ∃ (m : Nat) (A9 : Option Addr) (c9 : Nat) (G2 : List TreeH), m ≤ q.length ∧ j = .int .i64 m ∧ v = .slice A9 G2.length c9 ∧ Hid (G2.map (·.1) = ((q.take m).foldl (edX g dec s') ([], st.2)).1) ∧ GT (nn + m0) V.heap.size wr A9 c9 G2 ∧
            Blk wr E TE #[.slice (some ⟨b, off, none⟩) g.length c, .int .i64 ((((q.take m).foldl (edX g dec s') ([], st.2)).2 : Nat) : Int), .func (.func f) #[] caps] ∧ Fr [E] V wr) (fun _ j _ => q.length - (intOf j).toNat)
          case atStart => exact ⟨0, none, 0, [], Nat.zero_le _, rfl, rfl, rfl, GT.nil_ _ _ _, hE6, Fr.refl _ _⟩
          case round =>
            clear hc
            obtain ⟨m, A9, c9, G2, hm', rfl, rfl, hG2m, hGT, hE7, hfm⟩ := hrel
            have hFW0m : Fr [] w0 wr := fr_w0 hFW0 hfm hE
            have hwr0 : E < V.heap.size := hE6.lt
            by_cases hlt2 : m < q.length
            · obtain ⟨b6, off6, x, A8, c8, rfl, hx, f0, f1, f2, hX⟩ := hRow.at_ hlt2
              have f0 := hFW0m.cell f0 (by simp)
              have f1 := hFW0m.cell f1 (by simp)
              have f2 := hFW0m.cell f2 (by simp)
              have hxv := Lib.hid (HQ.out x (List.mem_of_getElem? hx.out))
              have HXT := Lib.hid (fold_take (f := edX g dec s') (b := ([], st.2)) hx)
              have hxs := nodeE_snd (g := g) (dec := dec) x hxv.out s' (((q.take m).foldl (edX g dec s') ([], st.2)).2)
              have hx1 := nodeE_one (g := g) h1d x s' (((q.take m).foldl (edX g dec s') ([], st.2)).2)
              have hln := ed_row_len (g := g) h1d s' (q.take m) ([], st.2)
              have hmo := fold_inc (m := fun st : List T × Nat => st.2) (fun b x => edX_mono (g := g) (dec := dec) s' b x) (q.take m) ([], st.2)
              have htl := fold_take_le (m := fun st : List T × Nat => st.2) (fun b x => edX_mono (g := g) (dec := dec) s' b x) q ([], st.2) (m + 1)
              rw [HXT.out] at htl
              have htl2 : (nodeE g dec x s' (((q.take m).foldl (edX g dec s') ([], st.2)).2)).2 ≤ n + t.nodes := Nat.le_trans htl hk3
              have hmo2 : st.2 ≤ ((q.take m).foldl (edX g dec s') ([], st.2)).2 := hmo
              have hG2l : G2.length ≤ q.length := by
                have h1 := congrArg List.length hG2m.out
                rw [List.length_map] at h1
                have h2 : ((q.take m).foldl (edX g dec s') ([], st.2)).1.length ≤ 0 + (q.take m).length := hln
                rw [List.length_take] at h2
                omega
              have HXR : Hid (edX g dec s' ((q.take m).foldl (edX g dec s') ([], st.2)) x = (((q.take m).foldl (edX g dec s') ([], st.2)).1 ++ (nodeE g dec x s' (((q.take m).foldl (edX g dec s') ([], st.2)).2)).1, (nodeE g dec x s' (((q.take m).foldl (edX g dec s') ([], st.2)).2)).2)) := rfl
              clear htl hmo hln
              generalize (q.take m).foldl (edX g dec s') ([], st.2) = st3 at *
              obtain ⟨rx, hrx⟩ : ∃ rx, nodeE g dec x s' st3.2 = rx := ⟨_, rfl⟩
              rw [hrx] at HXR hxs hx1 htl2
              have hb1 : st3.2 + x.nodes ≤ 100000 := by omega
              have hb2 : 0 < st3.2 := by omega
              have hb3 : (G2.length + rx.1.length) * 48 ≤ 140737488355328 := by omega
              have HRX := Lib.hid hrx
              clear hrx hxs htl2 hmo2
              obtain ⟨W7, hW7⟩ : ∃ W, W = wr.alloc (.cells #[.int .i64 x.kind, .string x.text, .slice A8 x.slots.length c8] 27) := ⟨_, rfl⟩
              have hf7 : Fr [] wr W7 := by rw [hW7]; exact frx
              have hB7 : Blk W7 wr.heap.size 27 #[.int .i64 x.kind, .string x.text, .slice A8 x.slots.length c8] := by rw [hW7]; exact Blk.new _ _ _ _ rfl
              have hE8 := hE7.fr hf7 (by simp)
              have hGT7 := hGT.fr0 hf7
              have hB67 := (hB6.fr hfm (by simp; omega)).fr hf7 (by simp)
              have hFW7 := hFW0m.trans hf7
              have hz7 := hf7.size
              have hzm := hfm.size
              have g0 := hE8.cell 0 rfl
              have y0 := hB7.cell 0 rfl
              have y1 := hB7.cell 1 rfl
              have y2 := hB7.cell 2 rfl
              have k0 : W7.cell? ⟨w.heap.size, 0, none⟩ = some (.int .i64 (kk : Int)) := by rw [← HKK.out]; exact hB67.cell 0 rfl
              have hbl : b < w0.heap.size := World.block_lt_of_cell? w0 _ e3
              have hbE : b ≠ E := by omega
              have hb2l : b2 < w0.heap.size := World.block_lt_of_cell? w0 _ s0
              have hb2E : b2 ≠ E := by omega
              have hA9 : Hid (∀ a, A9 = some a → V.heap.size ≤ a.block ∧ a.block < wr.heap.size) := fun a h => own_block hGT.own h
              have hwV : w0.heap.size ≤ V.heap.size := hFW0.size
              have hHV : w.heap.size < V.heap.size := hB6.lt
              have e3 := hFW7.cell e3 (by simp)
              have s0 := hFW7.cell s0 (by simp)
              have s1 := hFW7.cell s1 (by simp)
              have s2 := hFW7.cell s2 (by simp)
              have HW7 := Lib.hid hW7.symm
              have hask' : AskOk g st3.2 s' := .inr ⟨hb2, hko.out⟩
              clear hW7
              go_wp2_with fail
              rw [HW7.out]
              go_region_held3 (fun w' => w'.cell? ⟨E, 0, none⟩ = some (.slice (some ⟨b, off, none⟩) g.length c) ∧ w'.cell? ⟨wr.heap.size, 0, none⟩ = some (.int .i64 x.kind) ∧ w'.cell? ⟨wr.heap.size, 1, none⟩ = some (.string x.text) ∧ w'.cell? ⟨wr.heap.size, 2, none⟩ = some (.slice A8 x.slots.length c8) ∧ w'.cell? ⟨w.heap.size, 0, none⟩ = some (.int .i64 (kk : Int)) ∧
                  w'.cell? ⟨b, off + kk * 4 + 3, none⟩ = some (.slice (some ⟨b2, off2, none⟩) r.slots.length c1) ∧ w'.cell? ⟨b2, off2 + k * 3, none⟩ = some (.int .u8 s'.many) ∧ w'.cell? ⟨b2, off2 + k * 3 + 1, none⟩ = some (.slice A4 s'.kinds.length c4) ∧ w'.cell? ⟨b2, off2 + k * 3 + 2, none⟩ = some (.string s'.between))
                (first
                  | (go_keep; done)
                  | exact ⟨hEb.cell 0 rfl, hFb.cell y0 (by simp; omega), hFb.cell y1 (by simp; omega), hFb.cell y2 (by simp; omega), hFb.cell k0 (by simp; omega), hFb.cell e3 (by simp; omega), hFb.cell s0 (by simp; omega), hFb.cell s1 (by simp; omega), hFb.cell s2 (by simp; omega)⟩
                  | exact ⟨grown_keep hg11 (hEb.cell 0 rfl) (fun a ha => by have := hA9.out a ha; show E ≠ a.block; omega), grown_keep hg11 (hFb.cell y0 (by simp; omega)) (fun a ha => by have := hA9.out a ha; show wr.heap.size ≠ a.block; omega), grown_keep hg11 (hFb.cell y1 (by simp; omega)) (fun a ha => by have := hA9.out a ha; show wr.heap.size ≠ a.block; omega), grown_keep hg11 (hFb.cell y2 (by simp; omega)) (fun a ha => by have := hA9.out a ha; show wr.heap.size ≠ a.block; omega), grown_keep hg11 (hFb.cell k0 (by simp; omega)) (fun a ha => by have := hA9.out a ha; show w.heap.size ≠ a.block; omega), grown_keep hg11 (hFb.cell e3 (by simp; omega)) (fun a ha => by have := hA9.out a ha; show b ≠ a.block; omega), grown_keep hg11 (hFb.cell s0 (by simp; omega)) (fun a ha => by have := hA9.out a ha; show b2 ≠ a.block; omega), grown_keep hg11 (hFb.cell s1 (by simp; omega)) (fun a ha => by have := hA9.out a ha; show b2 ≠ a.block; omega), grown_keep hg11 (hFb.cell s2 (by simp; omega)) (fun a ha => by have := hA9.out a ha; show b2 ≠ a.block; omega)⟩)
                (first
                  | (go_at_call 73; refine (ih x A8 c8 S s' A4 c4 st3.2 _ hX (hFW7.trans frx) (hE8.fr (by show Fr [] W7 _; exact frx) (by simp)) hks' hxv.out hask' hb1).mono ?_; rw [HRX.out]; rintro e wb ⟨A10, c10, rfl, hfb, hR10, hEb⟩; have hFb : Fr [E] W7 wb := (Fr.trans2 (S := [E]) (T := [E]) frx hfb (fun x hx => .inl hx)); obtain ⟨G3, hG3m, hG3c, hG3r⟩ := hR10.heads; have hGTb := hGT7.fr hFb (fun k hk => (by simp at hk; omega)))
                  | (refine step_append_g rfl (.tmp 67) (.tmp 83) _ rfl elemTrees (.slice A9 G2.length c9) (G2.flatMap encT) rfl hGTb.own A10 rx.1.length c10 (G3.flatMap encT) rfl hG3c (by rw [encT_len, ← hG3m, List.length_map]) hR10.le (encT_one _) hb3 (by have := hFb.size; omega) ?_; intro A11 c11 w11 ho11 hg11 hat11))
              have hl3 : rx.1.length = G3.length := by rw [← hG3m, List.length_map]
              have hGc := hGTb.app (m := rx.1.length) (fun p hp => RH.sub (hG3r p hp) fun k _ hk => hGT7.bad_lt (by omega) k hk) rfl hl3 hg11 hat11 ho11
              have hFm : Fr [E] V w11 := Fr.app ((hfm.trans (hf7.mono (by simp))).trans hFb) hGTb.own (Nat.le_refl _) hg11
              have hEm := hEb.grown hg11 (hGTb.ne hwr0)
              go_wp2_with fail
              go_roundw
              case rel =>
                iterate 25 apply Exists.intro
                refine ⟨⟨m + 1, A11, c11, G2 ++ G3, by omega, by go_num, by rw [List.length_append, ← hl3], (show _ = _ by rw [List.map_append, hG2m.out, hG3m, HXT.out, HXR.out]), hGc, (by rw [HXT.out, HXR.out]; exact hEm), hFm⟩, rfl⟩
              case measure => simp [intOf]; omega
            · obtain rfl : m = q.length := by omega
              rw [List.take_length] at hG2m hE7
              have hEP : Hid (edP g dec st (s', q) = (st.1 ++ [(q.foldl (edX g dec s') ([], st.2)).1], (q.foldl (edX g dec s') ([], st.2)).2)) := rfl
              generalize q.foldl (edX g dec s') ([], st.2) = st3 at *
              have hzV := hBO.lt
              have hzm := hfm.size
              have hEw := hE7.lt
              have hGR8 := hGR.fr hfm (fun k hk => by obtain rfl : k = E := by simpa using hk
                                                      omega)
              have hB68 := hB6.fr hfm (by simp; omega)
              have hBO8 := hBO.fr hfm (by simp; omega)
              have hRw : RowAt (Bad (wa.heap.size + 1) AO) (nn + m0) wr A9 c9 (G2.map (·.1)) := hGT.rowAt.sub fun j _ hj => hGR.bad_lt (by omega) j hj
              obtain ⟨R, hR9⟩ : ∃ R, G2.map (·.1) = R := ⟨_, rfl⟩
              have hRl : G2.length = R.length := by rw [← hR9, List.length_map]
              rw [hR9] at hRw hG2m
              have p2 := hBO8.cell 2 rfl
              have p26 := (hBO8.alloc (.cells #[.slice A9 R.length c9] 59)).cell 2 rfl
              rw [hRl]
              clear hRl
              go_wp2_with (at_builtin; go_loud (refine wpList_append_rd rfl (.tmp 87) (.tmp 89) _ rfl elemRows (.slice AO G.length cO) (G.map encRow) rfl (hGR8.own.alloc _) (some ⟨_, 0, none⟩) 1 [((R, A9, c9) : RowH)] encRow rfl (Rd.one wr _ encRow ((R, A9, c9) : RowH)) one_row (by simp; omega) (by simp; omega) ?_; intro A7 c7 w7 ho7 hg7 hat7; have hB37 := (hBO8.alloc _).grown hg7 (hGR8.ne (by omega)); have r2 := hB37.cell 2 rfl; have r3 := hB37.frozen 2))
              have hGa := hGR8.fr0 ((Fr.refl [] _).alloc (.cells #[encRow ((R, A9, c9) : RowH)] 59))
              have hGb := (hGa.snoc (p := ((R, A9, c9) : RowH)) (RowAt.fr hRw (Z := []) ((Fr.refl _ _).alloc _) (by simp)) rfl hg7 hat7 ho7).fr ((Fr.refl [wa.heap.size] w7).setCell (p := ⟨wa.heap.size, 2, none⟩) (.inl (by simp)) (.slice A7 (G.length + 1) c7)) (by simp)
              go_roundw
              case rel =>
                iterate 41 apply Exists.intro
                refine ⟨⟨k + 1, A7, c7, G ++ [((R, A9, c9) : RowH)], by omega, by go_num, ?_, hGb, ?_, ((hB68.alloc _).grown hg7 (hGR8.ne (by omega))).far (by show w.heap.size ≠ wa.heap.size; omega) _, ?_, (Fr.app ((hf.trans hfm).alloc _) hGa.own (by omega) hg7).setCell (.inr (by show w.heap.size ≤ wa.heap.size; omega)) _⟩, rfl⟩
                · show _ = _
                  rw [List.map_append, hGm.out, HZP.out, hEP.out, ← hG2m.out]
                  rfl
                · rw [HZP.out, hEP.out]
                  exact ((hE7.alloc _).grown hg7 (hGR8.ne (by omega))).far (by show E ≠ wa.heap.size; omega) _
                · have := hB37.set_ 2 (.slice A7 (G.length + 1) c7)
                  simpa using this
              case measure => simp [intOf]; omega
        · obtain rfl : k = t.slots.length := by omega
          have hall : (r.slots.zip t.slots).take t.slots.length = r.slots.zip t.slots := List.take_of_length_le (by rw [List.length_zip]; omega)
          rw [hall] at hGm hE6
          clear hall hk1 hk2
          obtain ⟨rows, hrows⟩ : ∃ x, (r.slots.zip t.slots).foldl (edP g dec) ([], n + 1) = x := ⟨_, rfl⟩
          rw [hrows] at hGm hE6
          have hEq2 : Hid (nodeE g dec t s n = ([T.mk t.kind t.text rows.1], rows.2)) := by show _ = _; rw [hEq.out, hrows]
          have hGle : Hid (G.length = rows.1.length) := by show _ = _; rw [← hGm.out, List.length_map]
          have hRB := hGR.rowsB
          rw [hGm.out] at hRB
          have hRH : RH (fun k => k < wa.heap.size + 1) (nn + m0 + 1) wr AO cO (T.mk t.kind t.text rows.1) := hRB
          have hzw := hBO.lt
          have hOne : RowAt (fun k => k < w.heap.size) (nn + m0 + 1) (wr.alloc (.cells #[.int .i64 (kk : Int), .string t.text, .slice AO G.length cO] 27)) (some ⟨wr.heap.size, 0, none⟩) 1 [T.mk t.kind t.text rows.1] := by
            have h1 := RowAt.one (e := 27) (S := fun k => k < w.heap.size) (by show ¬ wr.heap.size < w.heap.size; omega) (RH.sub (S' := fun k => k < w.heap.size) hRH fun k _ hk => by have hk : k < w.heap.size := hk; show k < wa.heap.size + 1; omega)
            rw [hGle.out, ← HKK.out]
            exact h1
          have hOne := RowAt.imp hOne (fun _ _ h => h) (fun _ _ _ h => h) (show nn + m0 + 1 ≤ nn + 1 + m0 by omega)
          have o0 := hBO.cell 0 rfl
          have o1 := hBO.cell 1 rfl
          have o2 := hBO.cell 2 rfl
          clear hrows hRB hRH
          go_wp2_with fail
          go_ret
          rw [hEq2.out]
          exact ⟨_, _, rfl, hf.alloc _, hOne, hE6.alloc _⟩
    · rw [hd] at hRa
      have hEq := Lib.hid (nodeE_some (g := g) (t := t) hd)
      clear hd
      have hwr : Hid (IntKind.i64.wrap ((n : Int) + (t.nodes : Int)) = ((n + t.nodes : Nat) : Int)) := by show _ = _; rw [IntWalk.i64_in _ (by omega)]; omega
      go_wp2_with fail
      go_region_with (first
          | (go_at_call 23; refine (Nodes_any (nn + 1) t _ S _ ⟨AT, cT, rfl, hRR.fr0 (hf0.trans (hFwa.trans frx))⟩ (by omega)).mono ?_; rintro e wb ⟨rfl, hfb⟩; have hFb : Fr [] wa wb := (Fr.trans frx hfb); have z1 := (hEa.fr hFb (by simp)).cell 1 rfl; have z2 := (hEa.fr hFb (by simp)).frozen 1; have hFs := fun v => Fr.setCell (S := [E]) (p := ⟨E, 1, none⟩) (hFb.mono (by simp)) (.inl (by simp)) v))
      all_goals
        rw [hwr.out]
        have hFin := hFs (.int .i64 ((n + t.nodes : Nat) : Int))
        have hEn := (hEa.fr hFb (by simp)).set_ 1 (.int .i64 ((n + t.nodes : Nat) : Int))
        have hRn := RowAt.imp (RowAt.fr hRa hFin (fun k hk => by obtain rfl : k = E := by simpa using hk
                                                                 exact hEl)) (fun _ _ h => h) (fun _ _ _ h => h) (show m0 ≤ nn + 1 + m0 by omega)
        have hFtot := (hFwa.mono (T := [E]) (by simp)).trans hFin
        generalize wb.setCell ⟨E, 1, none⟩ (.int .i64 ((n + t.nodes : Nat) : Int)) = W9 at *
        go_wp2_with fail
        go_ret
        rw [hEq.out]
        exact ⟨A5, c5, rfl, hFtot, hRn, by simpa using hEn⟩
end

/- pruned of the program. -/
section
open Go.RowKit
def prunedT (g : List Ru) (L at_ : List Int) (t : T) : T := ((nodeE g (decP g L at_) t slot0 0).1.head?).getD t
theorem decP_zero {g : List Ru} {L at_ : List Int} {s : Sl} (h0 : (0 : Int) ∉ at_) : decP g L at_ 0 s = none := by
 unfold decP
 rw [if_neg (by simpa using h0)]
theorem decP_one {g : List Ru} {L at_ : List Int} (n : Nat) (s : Sl) (l : List T) (h : decP g L at_ n s = some l) : l.length ≤ 1 := by
 unfold decP at h
 split at h
 ·split at h
  ·obtain rfl := Option.some.inj h; exact Nat.le_refl _
  ·obtain rfl := Option.some.inj h; exact Nat.zero_le _
 ·cases h
theorem prunedT_one {g : List Ru} {L at_ : List Int} {t : T} (h0 : (0 : Int) ∉ at_) (hv : Val g t) : nodeE g (decP g L at_) t slot0 0 = ([prunedT g L at_ t], t.nodes) := by
 obtain ⟨r, hr, _⟩ := val_parts hv
 have h1 := nodeE_snd (g := g) (dec := decP g L at_) t hv slot0 0
 have h2 := nodeE_none (g := g) (t := t) (decP_zero (g := g) (L := L) (s := slot0) h0) hr
 refine Prod.ext ?_ (by rw [h1]; exact Nat.zero_add _)
 unfold prunedT
 rw [h2]
 rfl
set_option maxRecDepth 20000 in
set_option maxHeartbeats 3200000 in
theorem pruned_any (A D AT : Option Addr) (c d cT : Nat) (g : List Ru) (L at_ : List Int) (nn : Nat) (t : T) (S : Nat → Prop) (w : World) (ha : RRu w A c g) (hok : LOk g L) (hro : RulesOk g) (hne : g ≠ []) (h32 : g.length ≤ 32) (hle : ∀ k : Nat, k < g.length → getI L k ≤ 1024) (hat : Rd w (.int .i64) D d at_)
  (h0 : (0 : Int) ∉ at_) (hval : Val g t) (hn : t.nodes ≤ 1024) (hR : RH S nn w AT cT t) :
  Calls Tryz.prog 48 #[.agg #[.slice A g.length c], .agg (tcells t AT cT), .slice D at_.length d] w (RetT (nn + 1024) w (prunedT g L at_ t)) := by
 have hlen : Hid (L.length = g.length) := hok.sz.1
 obtain ⟨W, hW⟩ : ∃ W, W = (((w.alloc (.cells #[.slice A g.length c] 24)).alloc (.cells (tcells t AT cT) 27)).alloc (.cells #[.slice D at_.length d] 53)).alloc (.cells #[.int .i64 0, .string emptyS, .slice none 0 0] 27) := ⟨_, rfl⟩
 have hF : Fr [] w W := by rw [hW]; exact frx
 have hB1 : Blk W w.heap.size 24 #[.slice A g.length c] := by rw [hW]; exact (((Blk.new w _ _ _ rfl).alloc _).alloc _).alloc _
 have hB2 : Blk W (w.heap.size + 1) 27 (tcells t AT cT) := by rw [hW]; exact ((Blk.new _ _ _ _ (by simp)).alloc _).alloc _
 have hB3 : Blk W (w.heap.size + 2) 53 #[.slice D at_.length d] := by rw [hW]; exact (Blk.new _ _ _ _ (by simp)).alloc _
 have hB4 : Blk W (w.heap.size + 3) 27 #[.int .i64 0, .string emptyS, .slice none 0 0] := by rw [hW]; exact Blk.new _ _ _ _ (by simp)
 have q0 := hB1.cell 0 rfl
 rw [hW] at q0
 have HW := Lib.hid hW.symm
 clear hW
 go_enter Tryz.func48, Tryz.ntmps48
 go_wp2_with fail
 rw [HW.out]
 clear q0
 refine (sizes_any A c g L _ (ha.fr0 hF) hne h32 hok.ok hok.sz hok.pos).mono ?_
 rintro e w1 ⟨A5, c5, rfl, hf1, hr5⟩
 rw [hlen.out]
 obtain ⟨W1, hW1⟩ : ∃ W1, W1 = w1.alloc (.cells #[.slice A5 g.length c5] 53) := ⟨_, rfl⟩
 have hf2 : Fr [] W W1 := by rw [hW1]; exact hf1.alloc _
 have hB5 : Blk W1 w1.heap.size 53 #[.slice A5 g.length c5] := by rw [hW1]; exact Blk.new _ _ _ _ rfl
 have hr6 : Rd W1 (.int .i64) A5 c5 L := by rw [hW1]; exact hr5.alloc _
 have hS1 : Hid (W1.heap.size = w1.heap.size + 1) := by show _ = _; rw [hW1]; simp
 have hB1 := hB1.fr hf2 (by simp)
 have hB2 := hB2.fr hf2 (by simp)
 have hB3 := hB3.fr hf2 (by simp)
 have hB4 := hB4.fr hf2 (by simp)
 obtain ⟨W2, hW2⟩ : ∃ W2, W2 = W1.alloc (.cells #[.slice A g.length c, .int .i64 0, .func (.func 72) #[] #[.pointer (some ⟨w.heap.size + 1 + 1, 0, none⟩), .pointer (some ⟨w.heap.size, 0, none⟩), .pointer (some ⟨w1.heap.size, 0, none⟩)]] TE) := ⟨_, rfl⟩
 have hf3 : Fr [] W1 W2 := by rw [hW2]; exact frx
 have hBE : Blk W2 W1.heap.size TE #[.slice A g.length c, .int .i64 ((0 : Nat) : Int), .func (.func 72) #[] #[.pointer (some ⟨w.heap.size + 1 + 1, 0, none⟩), .pointer (some ⟨w.heap.size, 0, none⟩), .pointer (some ⟨w1.heap.size, 0, none⟩)]] := by rw [hW2]; exact Blk.new _ _ _ _ rfl
 have y0 := (hB2.fr hf3 (by simp)).cell 0 rfl
 have y1 := (hB2.fr hf3 (by simp)).cell 1 rfl
 have y2 := (hB2.fr hf3 (by simp)).cell 2 rfl
 have q0 := hB1.cell 0 rfl
 rw [hW2, hW1] at y0 y1 y2
 rw [hW1] at q0
 have HW1 := Lib.hid hW1.symm
 have HW2 := Lib.hid hW2.symm
 clear hW1 hW2
 have hFW1 : Fr [] w W1 := hF.trans hf2
 have g1 := hB1.cell 0 rfl
 have g3 := hB3.cell 0 rfl
 have g5 := hB5.cell 0 rfl
 have HF : ∀ (w' : World) (n : Nat) (s : Sl) (B : Option Addr) (cb : Nat), Fr [] W1 w' → Rd W1 (.int .i64) B cb s.kinds → AskOk g n s → Calls Tryz.prog 72 (#[.int .i64 (n : Nat), .agg #[.int .u8 s.many, .slice B s.kinds.length cb, .string s.between]] ++ #[.pointer (some ⟨w.heap.size + 1 + 1, 0, none⟩), .pointer (some ⟨w.heap.size, 0, none⟩), .pointer (some ⟨w1.heap.size, 0, none⟩)]) w' (RetDec 1024 w' (decP g L at_ n s)) := by
  intro w' n s B cb hfw hRB hask
  refine pruned1_any A B A5 D c cb c5 d w.heap.size (w.heap.size + 1 + 1) w1.heap.size g L at_ n s w' (ha.fr0 (hFW1.trans hfw)) hok (hr6.fr0 hfw) (hat.fr0 (hFW1.trans hfw)) (hRB.fr0 hfw) (hfw.cell g3 (by simp)) (hfw.cell g1 (by simp)) (hfw.cell g5 (by simp)) fun hm _ => ?_
  rcases hask with ⟨rfl, _⟩ | ⟨_, hko⟩
  ·exact absurd hm h0
  ·have hlm := hko.2 _ (lowest_mem (L := L) hko.1)
   obtain ⟨j, hj⟩ : ∃ j : Nat, lowestL L s.kinds = j := ⟨(lowestL L s.kinds).toNat, by omega⟩
   rw [hj] at hlm ⊢
   exact ⟨hko, hle j (by omega)⟩
 have hC := node_any A c g hro W1 (ha.fr0 hFW1) W1.heap.size (Nat.le_refl _) 72 _ (fun _ _ => rfl) 1024 (decP g L at_) decP_one HF nn t AT cT S slot0 none 0 0 W2 (hR.fr0 hFW1) hf3 hBE (Rd.nil_ _ _) hval (.inl ⟨rfl, rfl⟩) (by omega)
 rw [prunedT_one h0 hval] at hC
 have HC := Lib.hid hC
 clear hC HF hle h0
 go_wp2_with fail
 rw [HW1.out, ← hS1.out, HW2.out]
 clear y0 y1 y2 q0
 refine HC.out.mono ?_
 rintro e w4 ⟨A7, c7, rfl, hf4, hR7, _⟩
 obtain ⟨b, off, x, A8, c8, rfl, hx, e0, e1, e2, hRx⟩ := hR7.at_ (k := 0) (by simp)
 obtain rfl : prunedT g L at_ t = x := by simpa using hx.out
 have hz3 := hf3.size
 have hzW1 := hf2.size
 have hzW := hB4.lt
 have hF4 : Fr [] W1 w4 := hf3.trans2 hf4 fun k hk => .inr (by simp at hk; omega)
 have hB4 := hB4.fr hF4 (by simp)
 have u0 := hB4.cell 0 rfl
 have u1 := hB4.cell 1 rfl
 have u2 := hB4.cell 2 rfl
 have v0 := hB4.frozen 0
 have v1 := hB4.frozen 1
 have v2 := hB4.frozen 2
 rw [Nat.zero_mul, Nat.add_zero] at e0 e1 e2
 generalize prunedT g L at_ t = x at *
 go_wp2_with fail
 refine bodyPost_ret (results_tree rfl _ _ (w.heap.size + 3) rfl (hB4.three _ _ _)) rfl ?_
 refine ⟨A8, c8, rfl, fr_three (hFW1.trans hF4) (.inr (by omega)) _ _ _, ?_⟩
 exact ((hRx.sub (S' := fun k => k < w.heap.size + 4) fun k _ hk => by have hk : k < w.heap.size + 4 := hk; show k < W2.heap.size; omega).fr (fr_three (S := [w.heap.size + 3]) (Fr.refl _ _) (.inl (by simp)) _ _ _) (by simp)).sub fun k _ hk => by have hk : k < w.heap.size := hk; show k < w.heap.size + 4; omega
end

/- twin of the program: a tree in new memory. -/
section
open Go.RowKit
theorem Cells.lit {w : World} {ty : TypeId} {ys : List Value} {g : Nat} (hg : g = w.heap.size) : Cells (w.alloc (.cells ys.toArray ty)) (some ⟨g, 0, none⟩) ys := fun _ => ⟨g, 0, rfl, fun j u hu => by
 have hb := Blk.new w ty ys.toArray g hg
 rw [Nat.zero_add]
 exact hb.cell j (by simpa using hu)⟩
theorem nodes_row {t : T} {i m : Nat} {q : List T} {x : T} (hq : Hid (t.slots[i]? = some q)) (hx : Hid (q[m]? = some x)) : x.nodes < t.nodes := nodes_below hq hx
set_option maxRecDepth 20000 in
set_option maxHeartbeats 6400000 in
theorem twin_any (g : List Ru) (hro : RulesOk g) (nn : Nat) : ∀ (t : T) (AT : Option Addr) (cT : Nat) (S : Nat → Prop) (w : World), RH S nn w AT cT t → Val g t → t.nodes ≤ 100000 → Calls Tryz.prog 26 #[.agg (tcells t AT cT)] w (RetT nn w t) := by
  induction nn with
  | zero => intro t AT cT S w h; exact absurd h id
  | succ nn ih =>
    intro t AT cT S w hR hval hn
    obtain ⟨ru, hru, _, hlen, _, _, hsub⟩ := val_parts hval
    have hfew : t.slots.length ≤ 8 := by
      obtain ⟨_, _, hgk, _⟩ := ruleAt_some hru
      rw [hlen]
      exact (hro.head ru (List.mem_of_getElem? hgk)).2.2
    have HSUB := Lib.hid hsub
    clear hru hlen hsub
    have hR : RowsB S (fun A c x => RH S nn w A c x) w AT cT t.slots := hR
    have hl1 := hR.bound
    obtain ⟨W, hW⟩ : ∃ W, W = ((w.alloc (.cells (tcells t AT cT) 27)).alloc (.cells #[.int .i64 0, .string emptyS, .slice none 0 0] 27)).alloc (.cells #[.int .i64 t.kind, .string t.text, .slice none 0 0] 27) := ⟨_, rfl⟩
    have hF : Fr [] w W := by rw [hW]; exact frx
    have hB1 : Blk W w.heap.size 27 (tcells t AT cT) := by rw [hW]; exact ((Blk.new w _ _ _ rfl).alloc _).alloc _
    have hB2 : Blk W (w.heap.size + 1) 27 #[.int .i64 0, .string emptyS, .slice none 0 0] := by rw [hW]; exact (Blk.new _ _ _ _ (by simp)).alloc _
    have hB3 : Blk W (w.heap.size + 2) 27 #[.int .i64 t.kind, .string t.text, .slice none 0 0] := by rw [hW]; exact Blk.new _ _ _ _ (by simp)
    have p2 := hB1.cell 2 rfl
    rw [hW] at p2
    have HW := Lib.hid hW.symm
    clear hW
    go_enter Tryz.func26, Tryz.ntmps26
    go_wp2_with fail
    rw [HW.out]
    clear p2
    go_loopw [17] (fun i wr => ∃ (k : Nat) (AO : Option Addr) (cO : Nat) (G : List RowH), k ≤ t.slots.length ∧ i = .int .i64 k ∧ Hid (G.map (·.1) = t.slots.take k) ∧ GR nn (w.heap.size + 3) wr AO cO G ∧
      Blk wr (w.heap.size + 1) 27 #[.int .i64 0, .string emptyS, .slice none 0 0] ∧ Blk wr (w.heap.size + 2) 27 #[.int .i64 t.kind, .string t.text, .slice AO G.length cO] ∧ Fr [] w wr) (fun i _ => t.slots.length - (intOf i).toNat)
    case atStart => exact ⟨0, none, 0, [], Nat.zero_le _, rfl, rfl, GR.nil_ _ _ _, hB2, hB3, hF⟩
    case round =>
      clear hB1 hB2 hB3 hF
      obtain ⟨k, AO, cO, G, hk, rfl, hGm, hGR, hB2, hB3, hf⟩ := hrel
      have hGl : Hid (G.length = k) := by
        show _ = _
        have := congrArg List.length hGm.out
        simpa [Nat.min_eq_left hk] using this
      have hzr := hB3.lt
      have hG8 : G.length ≤ 8 := by rw [hGl.out]; omega
      by_cases hlt : k < t.slots.length
      · obtain ⟨b4, off4, q, A6, c6, rfl, hq, hc, hRow, hlq⟩ := hR.at_ (i := k) hlt
        have hc := hf.cell hc (by simp)
        have hqn := row_few hq
        have HQ := Lib.hid (HSUB.out q (List.mem_of_getElem? hq.out))
        obtain ⟨V, rfl⟩ : ∃ V, V = wr := ⟨wr, rfl⟩
        go_wp2_with fail
        go_loopw [6, 23] (fun v j wr => ∃ (m : Nat) (A9 : Option Addr) (c9 : Nat) (G2 : List TreeH), m ≤ q.length ∧ j = .int .i64 m ∧ v = .slice A9 G2.length c9 ∧ Hid (G2.map (·.1) = q.take m) ∧ GT nn V.heap.size wr A9 c9 G2 ∧ Fr [] V wr) (fun _ j _ => q.length - (intOf j).toNat)
        case atStart => exact ⟨0, none, 0, [], Nat.zero_le _, rfl, rfl, rfl, GT.nil_ _ _ _, Fr.refl _ _⟩
        case round =>
          clear hc
          obtain ⟨m, A9, c9, G2, hm', rfl, rfl, hG2m, hGT, hfm⟩ := hrel
          have hG2l : Hid (G2.length = m) := by
            show _ = _
            have := congrArg List.length hG2m.out
            simpa [Nat.min_eq_left hm'] using this
          have hfwm := hf.trans hfm
          have hzm := hfm.size
          by_cases hlt2 : m < q.length
          · obtain ⟨b6, off6, x, A8, c8, rfl, hx, f0, f1, f2, hX⟩ := hRow.at_ hlt2
            have f0 := hfwm.cell f0 (by simp)
            have f1 := hfwm.cell f1 (by simp)
            have f2 := hfwm.cell f2 (by simp)
            have hxn := nodes_row hq hx
            have hxv := Lib.hid (HQ.out x (List.mem_of_getElem? hx.out))
            obtain ⟨W7, hW7⟩ : ∃ W, W = wr.alloc (.cells #[.int .i64 x.kind, .string x.text, .slice A8 x.slots.length c8] 27) := ⟨_, rfl⟩
            have hf7 : Fr [] wr W7 := by rw [hW7]; exact frx
            have hB7 : Blk W7 wr.heap.size 27 #[.int .i64 x.kind, .string x.text, .slice A8 x.slots.length c8] := by rw [hW7]; exact Blk.new _ _ _ _ rfl
            have y0 := hB7.cell 0 rfl
            have y1 := hB7.cell 1 rfl
            have y2 := hB7.cell 2 rfl
            have hz7 := hf7.size
            have hGT7 := hGT.fr0 hf7
            have HW7 := Lib.hid hW7.symm
            rw [hW7] at y0 y1 y2
            clear hW7
            go_wp2_with fail
            rw [HW7.out]
            clear y0 y1 y2
            refine (ih x A8 c8 S _ (hX.fr0 (hfwm.trans hf7)) hxv.out (by omega)).mono ?_
            rintro e wb ⟨A10, c10, rfl, hfb, hR10⟩
            have hGTb := hGT7.fr0 hfb
            have hzb := hfb.size
            have hbig : (G2.length + 1) * 48 ≤ 140737488355328 := by rw [hG2l.out]; omega
            have hGa := hGTb.fr0 ((Fr.refl [] _).alloc (.cells #[.int .i64 x.kind, .string x.text, .slice A10 x.slots.length c10] 27))
            have hcl := Cells.lit (w := wb) (ty := 27) (ys := [.int .i64 x.kind, .string x.text, .slice A10 x.slots.length c10]) (g := wb.heap.size) rfl
            go_wp2_with (at_builtin; go_loud (refine wpList_append_g rfl (.tmp 27) (.tmp 30) _ rfl elemTrees (.slice A9 G2.length c9) (G2.flatMap encT) rfl hGa.own (some ⟨wb.heap.size, 0, none⟩) 1 1 [.int .i64 x.kind, .string x.text, .slice A10 x.slots.length c10] rfl hcl rfl (Nat.le_refl _) (by simp; exact ⟨rfl, rfl, rfl⟩) hbig (by simp; omega) ?_; intro A11 c11 w11 ho11 hg11 hat11))
            have hGc := hGa.app (G2 := [((x, A10, c10) : TreeH)]) (m := 1) (fun p hp => by
              obtain rfl : p = ((x, A10, c10) : TreeH) := by simpa using hp
              exact (RH.sub hR10 fun k _ hk => by have := hGT7.bad_lt (by omega) k hk; exact this).fr0 ((Fr.refl _ _).alloc _)) rfl rfl hg11 hat11 ho11
            have hFm : Fr [] V w11 := Fr.app (((hfm.trans hf7).trans hfb).alloc _) hGa.own (Nat.le_refl _) hg11
            have hnx : Hid (q.take (m + 1) = q.take m ++ [x]) := by show _ = _; rw [List.take_add_one, hx.out]; rfl
            go_roundw
            case rel => exact ⟨m + 1, A11, c11, G2 ++ [((x, A10, c10) : TreeH)], by omega, by go_num, by rw [List.length_append]; rfl, (show _ = _ by rw [List.map_append, hG2m.out, hnx.out]; rfl), hGc, hFm⟩
            case measure => simp [intOf]; omega
          · obtain rfl : m = q.length := by omega
            rw [List.take_length] at hG2m
            have hGR8 := hGR.fr0 hfm
            have hB28 := hB2.fr hfm (by simp)
            have hB38 := hB3.fr hfm (by simp)
            have hRw : RowAt (Bad (w.heap.size + 3) AO) nn wr A9 c9 q := by
              have h1 := hGT.rowAt
              rw [hG2m.out] at h1
              exact h1.sub fun j _ hj => hGR.bad_lt (by omega) j hj
            have hnk : Hid (t.slots.take (k + 1) = t.slots.take k ++ [q]) := by show _ = _; rw [List.take_add_one, hq.out]; rfl
            have p2 := hB38.cell 2 rfl
            have p26 := (hB38.alloc (.cells #[.slice A9 q.length c9] 59)).cell 2 rfl
            rw [hG2l.out]
            clear hGT
            go_wp2_with (at_builtin; go_loud (refine wpList_append_rd rfl (.tmp 34) (.tmp 36) _ rfl elemRows (.slice AO G.length cO) (G.map encRow) rfl (hGR8.own.alloc _) (some ⟨_, 0, none⟩) 1 [((q, A9, c9) : RowH)] encRow rfl (Rd.one wr _ encRow ((q, A9, c9) : RowH)) one_row (by simp; omega) (by simp; omega) ?_; intro A7 c7 w7 ho7 hg7 hat7; have hB37 := (hB38.alloc _).grown hg7 (hGR8.ne (by omega)); have r2 := hB37.cell 2 rfl; have r3 := hB37.frozen 2))
            have hGa := hGR8.fr0 ((Fr.refl [] _).alloc (.cells #[encRow ((q, A9, c9) : RowH)] 59))
            have hGb := (hGa.snoc (p := ((q, A9, c9) : RowH)) (RowAt.fr hRw (Z := []) ((Fr.refl _ _).alloc _) (by simp)) rfl hg7 hat7 ho7).fr ((Fr.refl [w.heap.size + 2] w7).setCell (p := ⟨w.heap.size + 2, 2, none⟩) (.inl (by simp)) (.slice A7 (G.length + 1) c7)) (by simp)
            go_roundw
            case rel =>
              refine ⟨k + 1, A7, c7, G ++ [((q, A9, c9) : RowH)], by omega, by go_num, (show _ = _ by rw [List.map_append, hGm.out, hnk.out]; rfl), hGb, ((hB28.alloc _).grown hg7 (hGR8.ne (by omega))).far (by show w.heap.size + 1 ≠ w.heap.size + 2; omega) _, ?_, (Fr.app ((hf.trans hfm).alloc _) hGa.own (by omega) hg7).setCell (.inr (by show w.heap.size ≤ w.heap.size + 2; omega)) _⟩
              have := hB37.set_ 2 (.slice A7 (G.length + 1) c7)
              simpa using this
            case measure => simp [intOf]; omega
      · obtain rfl : k = t.slots.length := by omega
        rw [List.take_length] at hGm
        have hRB := hGR.rowsB
        rw [hGm.out] at hRB
        have u0 := hB2.cell 0 rfl
        have u1 := hB2.cell 1 rfl
        have u2 := hB2.cell 2 rfl
        have v0 := hB2.frozen 0
        have v1 := hB2.frozen 1
        have v2 := hB2.frozen 2
        have o0 := hB3.cell 0 rfl
        have o1 := hB3.cell 1 rfl
        have o2 := hB3.cell 2 rfl
        go_wp2_with fail
        refine bodyPost_ret (results_tree rfl _ _ (w.heap.size + 1) rfl (hB2.three _ _ _)) rfl ?_
        rw [hGl.out]
        refine ⟨AO, cO, rfl, fr_three hf (.inr (by omega)) _ _ _, ?_⟩
        have hRH : RH (fun k => k < w.heap.size + 3) (nn + 1) wr AO cO t := hRB
        exact (hRH.fr (fr_three (S := [w.heap.size + 1]) (Fr.refl _ _) (.inl (by simp)) _ _ _) (by simp)).sub fun k _ hk => by have hk : k < w.heap.size := hk; show k < w.heap.size + 3; omega
end

/- A tree in which a node is replaced by one below it: plain. -/
section
open Go.RowKit
section
variable {g : List Ru}
theorem spot_at_row {s : Sl} {d : Int} {p : Sp} : ∀ (q : List T) (out : List Sp) (j : Nat), (q.foldl (spotX g s d) out)[j]? = some p → out[j]? = some p ∨ ∃ x ∈ q, ∃ i o, (spotsT g x s (d + 1))[i]? = some p ∧ j = o + i ∧ o + (spotsT g x s (d + 1)).length ≤ (q.foldl (spotX g s d) out).length
  | [], _, _, h => .inl h
  | x :: q, out, j, h => by
    rw [List.foldl_cons] at h ⊢
    rcases spot_at_row q _ j h with h1 | ⟨y, hy, i, o, h1, h2, h3⟩
    · have h1 : (out ++ spotsT g x s (d + 1))[j]? = some p := h1
      by_cases hj : j < out.length
      · rw [List.getElem?_append_left hj] at h1
        exact .inl h1
      · rw [List.getElem?_append_right (by omega)] at h1
        refine .inr ⟨x, by simp, j - out.length, out.length, h1, by omega, ?_⟩
        have h2 : ∀ (q : List T) (o : List Sp), o.length ≤ (q.foldl (spotX g s d) o).length := by
          intro q
          induction q with
          | nil => intro o; exact Nat.le_refl _
          | cons y q ih => intro o; exact Nat.le_trans (by unfold spotX; rw [List.length_append]; omega) (ih (spotX g s d o y))
        have h3 := h2 q (spotX g s d out x)
        have h4 : (spotX g s d out x).length = out.length + (spotsT g x s (d + 1)).length := by unfold spotX; rw [List.length_append]
        omega
    · exact .inr ⟨y, by simp [hy], i, o, h1, h2, h3⟩
theorem spot_at_rows {d : Int} {p : Sp} : ∀ (Z : List (Sl × List T)) (out : List Sp) (j : Nat), (Z.foldl (spotP g d) out)[j]? = some p → out[j]? = some p ∨ ∃ z ∈ Z, ∃ x ∈ z.2, ∃ i o, (spotsT g x z.1 (d + 1))[i]? = some p ∧ j = o + i ∧ o + (spotsT g x z.1 (d + 1)).length ≤ (Z.foldl (spotP g d) out).length
  | [], _, _, h => .inl h
  | z :: Z, out, j, h => by
    rw [List.foldl_cons] at h ⊢
    rcases spot_at_rows Z _ j h with h1 | ⟨y, hy, x, hx, i, o, h1, h2, h3⟩
    · rcases spot_at_row z.2 out j h1 with h1 | ⟨x, hx, i, o, h1, h2, h3⟩
      · exact .inl h1
      · refine .inr ⟨z, by simp, x, hx, i, o, h1, h2, Nat.le_trans h3 ?_⟩
        have h4 : ∀ (Z : List (Sl × List T)) (o : List Sp), o.length ≤ (Z.foldl (spotP g d) o).length := by
          intro Z
          induction Z with
          | nil => intro o; exact Nat.le_refl _
          | cons y Z ih => intro o; exact Nat.le_trans (spot_in_len d o y) (ih (spotP g d o y))
        exact h4 Z (spotP g d out z)
    · exact .inr ⟨y, by simp [hy], x, hx, i, o, h1, h2, h3⟩
theorem spots_in (t : T) : Val g t → ∀ (s : Sl) (d : Int) (i : Nat) (p : Sp), (spotsT g t s d)[i]? = some p → Val g p.tree ∧ p.tree.nodes = p.size ∧ i + p.size ≤ t.nodes := by
  induction t using T.ind with
  | h t ih =>
    intro hv s d i p hp
    obtain ⟨r, hr, _, hlen, _, _, hsub⟩ := val_parts hv
    have hl := spots_len t hv s d
    rw [spotsT_eq] at hp hl
    rw [List.length_cons] at hl
    match i, hp with
    | 0, hp =>
      obtain rfl := Option.some.inj hp
      refine ⟨hv, ?_, ?_⟩
      · show t.nodes = 1 + (restT g t d).length
        omega
      · show 0 + (1 + (restT g t d).length) ≤ t.nodes
        omega
    | i + 1, hp =>
      rw [List.getElem?_cons_succ, restT_eq hr] at hp
      rw [restT_eq hr] at hl
      rcases spot_at_rows _ _ i hp with h | ⟨z, hz, x, hx, j, o, h1, h2, h3⟩
      · simp at h
      · have hz2 : z.2 ∈ t.slots := (List.of_mem_zip hz).2
        have hxv := hsub _ hz2 x hx
        obtain ⟨h4, h5, h6⟩ := ih _ hz2 x hx hxv z.1 (d + 1) j p h1
        rw [spots_len x hxv] at h3
        exact ⟨h4, h5, by omega⟩
end
def decH (at_ : Int) (x : T) : Dec := fun n _ => if (n : Int) = at_ then some [x] else none
theorem decH_one {at_ : Int} {x : T} (n : Nat) (s : Sl) (l : List T) (h : decH at_ x n s = some l) : l.length ≤ 1 := by
 unfold decH at h
 split at h
 ·obtain rfl := Option.some.inj h; exact Nat.le_refl _
 ·cases h
def hoistN (g : List Ru) (at_ : Int) (x t : T) : T := ((nodeE g (decH at_ x) t slot0 0).1.head?).getD t
theorem hoistN_one {g : List Ru} {at_ : Int} {x t : T} (hv : Val g t) : nodeE g (decH at_ x) t slot0 0 = ([hoistN g at_ x t], t.nodes) := by
 obtain ⟨r, hr, _⟩ := val_parts hv
 have h1 := nodeE_snd (g := g) (dec := decH at_ x) t hv slot0 0
 refine Prod.ext ?_ (by rw [h1]; exact Nat.zero_add _)
 unfold hoistN
 rcases hd : decH at_ x 0 slot0 with _ | l
 ·rw [nodeE_none hd hr]
  rfl
 ·rw [nodeE_some hd]
  unfold decH at hd
  split at hd
  ·obtain rfl := Option.some.inj hd; rfl
  ·cases hd
def hoistAt (g : List Ru) (t : T) (at_ from_ : Int) (p q : Sp) : Option T := if (at_ = 0 ∧ q.tree.kind ≠ t.kind) ∨ (0 < at_ ∧ q.tree.kind ∉ p.slot.kinds) then none else some (hoistN g at_ q.tree t)
def hoistP (g : List Ru) (t : T) (l : List Sp) (at_ from_ : Int) (p : Sp) : Option T := if from_ ≤ at_ ∨ at_ + (p.size : Int) ≤ from_ then none else (l[from_.toNat]?).bind (hoistAt g t at_ from_ p)
def hoistOf (g : List Ru) (t : T) (at_ from_ : Int) : Option T := if at_ < 0 ∨ (t.nodes : Int) ≤ at_ then none else ((spotsT g t slot0 1)[at_.toNat]?).bind (hoistP g t (spotsT g t slot0 1) at_ from_)
section
variable {g : List Ru} {t : T} {at_ from_ : Int} {a f : Nat} {p q : Sp}
theorem hoist_no (h : at_ < 0 ∨ (t.nodes : Int) ≤ at_) : hoistOf g t at_ from_ = none := if_pos h
theorem hoist_p (ha : a < t.nodes) (hp : (spotsT g t slot0 1)[a]? = some p) : hoistOf g t a from_ = hoistP g t (spotsT g t slot0 1) a from_ p := by
 unfold hoistOf
 rw [if_neg (by omega), Int.toNat_natCast, hp]
 rfl
theorem hoist_p_no {l : List Sp} (h : from_ ≤ at_ ∨ at_ + (p.size : Int) ≤ from_) : hoistP g t l at_ from_ p = none := if_pos h
theorem hoist_q {l : List Sp} (h : ¬ ((f : Int) ≤ at_ ∨ at_ + (p.size : Int) ≤ f)) (hq : l[f]? = some q) : hoistP g t l at_ f p = hoistAt g t at_ f p q := by
 unfold hoistP
 rw [if_neg h, Int.toNat_natCast, hq]
 rfl
theorem hoist_bad (h : (at_ = 0 ∧ q.tree.kind ≠ t.kind) ∨ (0 < at_ ∧ q.tree.kind ∉ p.slot.kinds)) : hoistAt g t at_ from_ p q = none := if_pos h
theorem hoist_yes (h : ¬ ((at_ = 0 ∧ q.tree.kind ≠ t.kind) ∨ (0 < at_ ∧ q.tree.kind ∉ p.slot.kinds))) : hoistAt g t at_ from_ p q = some (hoistN g at_ q.tree t) := if_neg h
end
end

/- The reference's tree in which a node is another one: plain. -/
section
open Go.RowKit
def replT (g : List Ru) (at_ : Int) (x t : T) (n : Nat) : T := ((nodeE g (decH at_ x) t slot0 n).1.head?).getD t
def rX (g : List Ru) (at_ : Int) (x : T) (st : List T × Nat) (y : T) : List T × Nat := (st.1 ++ [replT g at_ x y st.2], st.2 + y.nodes)
def rP (g : List Ru) (at_ : Int) (x : T) (st : List (List T) × Nat) (q : List T) : List (List T) × Nat := (st.1 ++ [(q.foldl (rX g at_ x) ([], st.2)).1], (q.foldl (rX g at_ x) ([], st.2)).2)
section
variable {g : List Ru} {at_ : Int} {x : T}
theorem decH_slot (n : Nat) (s s' : Sl) : decH at_ x n s = decH at_ x n s' := rfl
theorem nodeE_slot {t : T} (s s' : Sl) (n : Nat) (hv : Val g t) : nodeE g (decH at_ x) t s n = nodeE g (decH at_ x) t s' n := by
 obtain ⟨r, hr, _⟩ := val_parts hv
 rcases hd : decH at_ x n s with _ | l
 ·rw [nodeE_none hd hr, nodeE_none (by rw [decH_slot n s' s]; exact hd) hr]
 ·rw [nodeE_some hd, nodeE_some (by rw [decH_slot n s' s]; exact hd)]
theorem repl_one {t : T} (hv : Val g t) (s : Sl) (n : Nat) : nodeE g (decH at_ x) t s n = ([replT g at_ x t n], n + t.nodes) := by
 obtain ⟨r, hr, _⟩ := val_parts hv
 rw [nodeE_slot s slot0 n hv]
 have h1 := nodeE_snd (g := g) (dec := decH at_ x) t hv slot0 n
 refine Prod.ext ?_ h1
 unfold replT
 rcases hd : decH at_ x n slot0 with _ | l
 ·rw [nodeE_none hd hr]
  rfl
 ·rw [nodeE_some hd]
  unfold decH at hd
  split at hd
  ·obtain rfl := Option.some.inj hd; rfl
  ·cases hd
theorem repl_row (s : Sl) : ∀ (q : List T) (st : List T × Nat), (∀ y ∈ q, Val g y) → q.foldl (edX g (decH at_ x) s) st = q.foldl (rX g at_ x) st
  | [], _, _ => rfl
  | y :: q, st, h => by
    rw [List.foldl_cons, List.foldl_cons]
    have h1 : edX g (decH at_ x) s st y = rX g at_ x st y := by
      unfold edX rX
      rw [repl_one (h y (by simp))]
    rw [h1]
    exact repl_row s q _ fun z hz => h z (by simp [hz])
theorem repl_rows : ∀ (S : List Sl) (Q : List (List T)) (st : List (List T) × Nat), S.length = Q.length → (∀ q ∈ Q, ∀ y ∈ q, Val g y) → (S.zip Q).foldl (edP g (decH at_ x)) st = Q.foldl (rP g at_ x) st
  | [], [], _, _, _ => rfl
  | [], _ :: _, _, hl, _ => by simp at hl
  | _ :: _, [], _, hl, _ => by simp at hl
  | s :: S, q :: Q, st, hl, h => by
    rw [List.zip_cons_cons, List.foldl_cons, List.foldl_cons]
    have h1 : edP g (decH at_ x) st (s, q) = rP g at_ x st q := by
      unfold edP rP
      rw [repl_row s q _ (h q (by simp))]
    rw [h1]
    exact repl_rows S Q _ (by simpa using hl) fun q' hq' => h q' (by simp [hq'])
theorem repl_at {t : T} {n : Nat} (h : (n : Int) = at_) : replT g at_ x t n = x := by
 unfold replT
 rw [nodeE_some (l := [x]) (by unfold decH; rw [if_pos h])]
 rfl
theorem repl_not {t : T} {n : Nat} (hv : Val g t) (h : ¬ (n : Int) = at_) : replT g at_ x t n = .mk t.kind t.text (t.slots.foldl (rP g at_ x) ([], n + 1)).1 := by
 obtain ⟨r, hr, _, hlen, _, _, hsub⟩ := val_parts hv
 unfold replT
 rw [nodeE_none (by unfold decH; rw [if_neg h]) hr, repl_rows _ _ _ hlen.symm hsub]
 rfl
theorem rX_snd : ∀ (q : List T) (st : List T × Nat), (q.foldl (rX g at_ x) st).2 = q.foldl nstN st.2
 | [], _ => rfl
 | y :: q, st => by rw [List.foldl_cons, List.foldl_cons, rX_snd q]; rfl
theorem rP_snd : ∀ (Q : List (List T)) (st : List (List T) × Nat), (Q.foldl (rP g at_ x) st).2 = fold2 nstN st.2 Q
  | [], _ => rfl
  | q :: Q, st => by
    rw [List.foldl_cons, rP_snd Q]
    show fold2 nstN (q.foldl (rX g at_ x) ([], st.2)).2 Q = fold2 nstN (q.foldl nstN st.2) Q
    rw [rX_snd]
theorem rP_len : ∀ (Q : List (List T)) (st : List (List T) × Nat), (Q.foldl (rP g at_ x) st).1.length = st.1.length + Q.length
  | [], _ => rfl
  | q :: Q, st => by
    rw [List.foldl_cons, rP_len Q, List.length_cons]
    simp [rP]
    omega
theorem nst_shift_row : ∀ (q : List T) (n a : Nat), q.foldl nstN (n + a) = n + q.foldl nstN a
  | [], _, _ => rfl
  | y :: q, n, a => by
    rw [List.foldl_cons, List.foldl_cons]
    show q.foldl nstN (n + a + y.nodes) = n + q.foldl nstN (a + y.nodes)
    rw [Nat.add_assoc]
    exact nst_shift_row q n _
theorem nst_shift : ∀ (Q : List (List T)) (n a : Nat), fold2 nstN (n + a) Q = n + fold2 nstN a Q
  | [], _, _ => rfl
  | q :: Q, n, a => by
    show fold2 nstN (q.foldl nstN (n + a)) Q = n + fold2 nstN (q.foldl nstN a) Q
    rw [nst_shift_row]
    exact nst_shift Q n _
theorem rP_le (t : T) (n i : Nat) : ((t.slots.take i).foldl (rP g at_ x) ([], n + 1)).2 ≤ n + t.nodes := by
 rw [rP_snd, nst_shift]
 have := nodes_upto t i
 exact Nat.add_le_add_left this n
theorem rX_le {t : T} {n i m : Nat} {q : List T} (hq : Hid (t.slots[i]? = some q)) : ((q.take m).foldl (rX g at_ x) ([], ((t.slots.take i).foldl (rP g at_ x) ([], n + 1)).2)).2 ≤ n + t.nodes := by
 rw [rX_snd, rP_snd]
 show (q.take m).foldl nstN (fold2 nstN (n + 1) (t.slots.take i)) ≤ _
 rw [nst_shift, nst_shift_row]
 exact Nat.add_le_add_left (nodes_in hq m) n
def RetTN (m : Nat) (w : World) (t : T) (k : Nat) (e : Ending) (w' : World) : Prop := ∃ A c, e = .returned (.tuple #[.agg (tcells t A c), .int .i64 (k : Nat)]) ∧ Fr [] w w' ∧ RH (fun k => k < w.heap.size) m w' A c t
end
end

/- Prune of the program. -/
section
open Go.RowKit
def pruneOf (g : List Ru) (L : List Int) (t : T) (at_ : List Int) : T × Int :=
 if (prunOf g L t).2 ≠ 0 then (zeroT, (prunOf g L t).2) else
 if isSet (((prunOf g L t).1.length : Int) + (t.nodes : Int)) at_ = false then (zeroT, 1) else
 if at_.all (fun x => decide (x ∈ (prunOf g L t).1)) then (prunedT g L at_ t, 0) else (zeroT, 1)
theorem pruneOf_err {g : List Ru} {L : List Int} {t : T} {at_ : List Int} (h : (prunOf g L t).2 ≠ 0) : pruneOf g L t at_ = (zeroT, (prunOf g L t).2) := if_pos h
theorem pruneOf_set {g : List Ru} {L : List Int} {t : T} {at_ can : List Int} (h : prunOf g L t = (can, 0)) (h1 : isSet ((can.length : Int) + (t.nodes : Int)) at_ = false) : pruneOf g L t at_ = (zeroT, 1) := by
 unfold pruneOf
 rw [h, if_neg (by simp), if_pos h1]
theorem pruneOf_out {g : List Ru} {L : List Int} {t : T} {at_ can : List Int} {x : Int} (h : prunOf g L t = (can, 0)) (h1 : isSet ((can.length : Int) + (t.nodes : Int)) at_ = true) (hx : x ∈ at_) (hx2 : x ∉ can) : pruneOf g L t at_ = (zeroT, 1) := by
 unfold pruneOf
 rw [h, if_neg (by simp), if_neg (by simp [h1]), if_neg]
 intro ha
 have := List.all_eq_true.1 ha x hx
 exact hx2 (by simpa using this)
theorem pruneOf_ok {g : List Ru} {L : List Int} {t : T} {at_ can : List Int} (h : prunOf g L t = (can, 0)) (h1 : isSet ((can.length : Int) + (t.nodes : Int)) at_ = true) (hx : ∀ x ∈ at_, x ∈ can) : pruneOf g L t at_ = (prunedT g L at_ t, 0) := by
 unfold pruneOf
 rw [h, if_neg (by simp), if_neg (by simp [h1]), if_pos]
 exact List.all_eq_true.2 fun x hm => by simpa using hx x hm
theorem prunIx_zero (L : List Int) (l : List Sp) (k : Nat) : (0 : Int) ∉ prunIx L l k := by
 intro h
 obtain ⟨i, hi, he⟩ := List.mem_map.1 h
 have hi := (List.mem_filter.1 hi).2
 obtain rfl : i = 0 := by omega
 cases hi
set_option maxRecDepth 20000 in
set_option maxHeartbeats 3200000 in
theorem Prune_any (A D : Option Addr) (c d : Nat) (g : List Ru) (L : List Int) (n : Nat) (t : T) (v : Value) (S : Nat → Prop) (at_ : List Int) (w : World) (ha : RRu w A c g) (hL : rulesErr g = 0 → LOk g L) (ht : RT S n w v t) (hn : t.nodes ≤ 1024) (hat : Rd w (.int .i64) D d at_) :
  Calls Tryz.prog 20 #[.agg #[.slice A g.length c], v, .slice D at_.length d] w (RetTE (n + 1024) w (pruneOf g L t at_)) := by
 obtain ⟨AT, cT, rfl, hR⟩ := ht
 have hatb := hat.bound
 obtain ⟨W, hW⟩ : ∃ W, W = ((w.alloc (.cells #[.slice A g.length c] 24)).alloc (.cells (tcells t AT cT) 27)).alloc (.cells #[.int .i64 0, .string emptyS, .slice none 0 0] 27) := ⟨_, rfl⟩
 have hF : Fr [] w W := by rw [hW]; exact frx
 have hB1 : Blk W w.heap.size 24 #[.slice A g.length c] := by rw [hW]; exact ((Blk.new w _ _ _ rfl).alloc _).alloc _
 have hB2 : Blk W (w.heap.size + 1) 27 (tcells t AT cT) := by rw [hW]; exact (Blk.new _ _ _ _ (by simp)).alloc _
 have hB3 : Blk W (w.heap.size + 2) 27 #[.int .i64 0, .string emptyS, .slice none 0 0] := by rw [hW]; exact Blk.new _ _ _ _ (by simp)
 have q0 := hB1.cell 0 rfl
 have p0 := hB2.cell 0 rfl
 have p1 := hB2.cell 1 rfl
 have p2 := hB2.cell 2 rfl
 rw [hW] at q0 p0 p1 p2
 have HW := Lib.hid hW.symm
 clear hW
 go_enter Tryz.func20, Tryz.ntmps20
 go_wp2_with fail
 rw [HW.out]
 clear q0 p0 p1 p2
 refine (Prunable_any A c g L n t _ S _ (ha.fr0 hF) hL ⟨AT, cT, rfl, hR.fr0 hF⟩ hn).mono ?_
 rintro e w1 ⟨A1, c1, rfl, hf1, ho1⟩
 have hB1 := hB1.fr hf1 (by simp)
 have hB2 := hB2.fr hf1 (by simp)
 have hB3 := hB3.fr hf1 (by simp)
 have q0 := hB1.cell 0 rfl
 have p0 := hB2.cell 0 rfl
 have p1 := hB2.cell 1 rfl
 have p2 := hB2.cell 2 rfl
 have u0 := hB3.cell 0 rfl
 have u1 := hB3.cell 1 rfl
 have u2 := hB3.cell 2 rfl
 have v0 := hB3.frozen 0
 have v1 := hB3.frozen 1
 have v2 := hB3.frozen 2
 have hF1 := hF.trans hf1
 have hcl : (prunOf g L t).1.length ≤ 1024 := by
  unfold prunOf
  split
  ·exact Nat.zero_le _
  ·rename_i h
   obtain ⟨_, _, _, hv, _⟩ := chkT_zero (g := g) (L := L) (t := t) (by simpa using h)
   have := prunIx_le L (spotsT g t slot0 1) (spotsT g t slot0 1).length
   rw [spots_len t hv slot0 1] at this
   exact Nat.le_trans (by rw [spots_len t hv slot0 1]; exact this) hn
 have hparts : (prunOf g L t).2 = 0 → LOk g L ∧ RulesOk g ∧ g ≠ [] ∧ g.length ≤ 32 ∧ (∀ k : Nat, k < g.length → getI L k ≤ 1024) ∧ Val g t ∧ (0 : Int) ∉ (prunOf g L t).1 := by
  intro h
  have hz : chkT g L t = 0 := by
   unfold prunOf at h
   split at h
   ·exact h
   ·rename_i h1; simpa using h1
  obtain ⟨hcg, _, _, hv, hro⟩ := chkT_zero hz
  obtain ⟨hg0, hg32, hre, _⟩ := chk_zero hcg
  refine ⟨hL hre, hro, fun h => hg0 (by rw [h]; rfl), hg32, fun k hk => (chk_sz hcg hL hk).2.1, hv, ?_⟩
  rw [prunOf_ok hz]
  exact prunIx_zero _ _ _
 rcases hp : prunOf g L t with ⟨can, ev⟩
 have hperr := pruneOf_err (g := g) (L := L) (t := t) (at_ := at_)
 have hpset := fun h => pruneOf_set (g := g) (L := L) (t := t) (at_ := at_) (can := can) h
 have hpout := fun x h => pruneOf_out (g := g) (L := L) (t := t) (at_ := at_) (can := can) (x := x) h
 have hpok := fun h => pruneOf_ok (g := g) (L := L) (t := t) (at_ := at_) (can := can) h
 rw [hp] at ho1 hcl hparts hperr hpset hpout hpok
 simp only at ho1 hcl hparts hperr
 simp only
 clear hp
 by_cases hez : ev = 0
 ·subst hez
  obtain ⟨hok, hro, hne, h32, hle, hv, h0⟩ := hparts rfl
  obtain ⟨_, hcan⟩ := Rd.of_own ho1
  have hcb := hcan.bound
  have HLE := Lib.hid hle
  have H0 := Lib.hid h0
  have HNE := Lib.hid hne
  clear hle h0 hne hparts hperr
  clear u0 u1 u2 v0 v1 v2
  rcases hs : isSet ((can.length : Int) + (t.nodes : Int)) at_ with _ | _
  ·have hE := Lib.hid (hpset rfl hs)
   have HS := Lib.hid hs
   clear hpset hpout hpok hs
   go_wp2_with (first
    | (go_at_call 23; refine (Nodes_any n t _ S _ ⟨AT, cT, rfl, hR.fr0 hF1⟩ (by omega)).mono ?_; rintro e w2 ⟨rfl, hf2⟩))
   refine (rising_any D d at_ _ _ (hat.fr0 (hF1.trans hf2))).mono ?_
   rw [HS.out]
   rintro e w3 ⟨rfl, n3, rfl⟩
   have hB3 := hB3.fr hf2 (by simp)
   have u0 := hB3.cell 0 rfl
   have u1 := hB3.cell 1 rfl
   have u2 := hB3.cell 2 rfl
   have v0 := hB3.frozen 0
   have v1 := hB3.frozen 1
   have v2 := hB3.frozen 2
   go_wp2_with fail
   refine bodyPost_ret (results_tree2 rfl _ _ (w.heap.size + 2) rfl ((hB3.drewN _).three _ _ _)) rfl ?_
   rw [hE.out]
   exact zeroT_ret ((hF1.trans hf2).drewN _) (by omega) _
  ·have HS := Lib.hid hs
   have HOUT := Lib.hid (fun x => hpout x rfl hs)
   have HOK := Lib.hid (hpok rfl hs)
   clear hpset hpout hpok hs
   go_wp2_with (first
    | (go_at_call 23; refine (Nodes_any n t _ S _ ⟨AT, cT, rfl, hR.fr0 hF1⟩ (by omega)).mono ?_; rintro e w2 ⟨rfl, hf2⟩))
   refine (rising_any D d at_ _ _ (hat.fr0 (hF1.trans hf2))).mono ?_
   rw [HS.out]
   rintro e w3 ⟨rfl, n3, rfl⟩
   have hF3 : Fr [] w1 (w2.drewN n3) := hf2.drewN _
   go_wp2_with fail
   go_loopw [33] (fun i wr => ∃ k : Nat, k ≤ at_.length ∧ i = .int .i64 k ∧ Hid (∀ x ∈ at_.take k, x ∈ can) ∧ Fr [] w1 wr) (fun i _ => at_.length - (intOf i).toNat)
   case atStart => exact ⟨0, Nat.zero_le _, rfl, fun x hx => by simp at hx, hF3⟩
   case round =>
    clear hF3
    obtain ⟨k, hk, rfl, hin, hf⟩ := hrel
    have hB1 := hB1.fr hf (by simp)
    have hB2 := hB2.fr hf (by simp)
    have hB3 := hB3.fr hf (by simp)
    have u0 := hB3.cell 0 rfl
    have u1 := hB3.cell 1 rfl
    have u2 := hB3.cell 2 rfl
    have v0 := hB3.frozen 0
    have v1 := hB3.frozen 1
    have v2 := hB3.frozen 2
    by_cases hlt : k < at_.length
    ·obtain ⟨b, off, x, rfl, hx, hc⟩ := hat.at_ hlt
     have hc := (hF1.trans hf).cell hc (by simp)
     rcases hm : decide (x ∈ can) with _ | _
     ·have hE := Lib.hid (HOUT.out x (List.mem_of_getElem? hx.out) (by simpa using hm))
      have HM := Lib.hid hm
      clear hm
      go_wp2_with fail
      refine (has_any A1 c1 can x _ (hcan.fr0 hf)).mono ?_
      rw [HM.out]
      rintro e w5 ⟨rfl, n5, rfl⟩
      go_wp2_with fail
      refine bodyPost_ret (results_tree2 rfl _ _ (w.heap.size + 2) rfl ((hB3.drewN _).three _ _ _)) rfl ?_
      rw [hE.out]
      exact zeroT_ret ((hF1.trans hf).drewN _) (by omega) _
     ·have hmx : x ∈ can := by simpa using hm
      have HM := Lib.hid hm
      have hin2 : Hid (∀ y ∈ at_.take (k + 1), y ∈ can) := fun y hy => by
       rw [List.take_add_one, hx.out] at hy
       rcases List.mem_append.1 hy with hy | hy
       ·exact hin.out y hy
       ·obtain rfl : y = x := by simpa using hy
        exact hmx
      clear hm hmx
      go_wp2_with fail
      refine (has_any A1 c1 can x _ (hcan.fr0 hf)).mono ?_
      rw [HM.out]
      rintro e w5 ⟨rfl, n5, rfl⟩
      go_wp2_with fail
      go_roundw
      case rel => exact ⟨k + 1, by omega, by go_num, hin2, hf.drewN _⟩
      case measure => simp [intOf]; omega
    ·obtain rfl : k = at_.length := by omega
     rw [List.take_length] at hin
     have hE := Lib.hid (HOK.out hin.out)
     have h0a : Hid ((0 : Int) ∉ at_) := fun h => H0.out (hin.out 0 h)
     have q0 := hB1.cell 0 rfl
     have p0 := hB2.cell 0 rfl
     have p1 := hB2.cell 1 rfl
     have p2 := hB2.cell 2 rfl
     clear u0 u1 u2 v0 v1 v2
     go_wp2_with fail
     refine (pruned_any A D AT c d cT g L at_ n t S _ (ha.fr0 (hF1.trans hf)) hok hro HNE.out h32 HLE.out (hat.fr0 (hF1.trans hf)) h0a.out hv hn (hR.fr0 (hF1.trans hf))).mono ?_
     rintro e w6 ⟨A7, c7, rfl, hf6, hR7⟩
     have hF6 := (hF1.trans hf).trans hf6
     have hzz := (hF1.trans hf).size
     have hB3 := hB3.fr hf6 (by simp)
     have u0 := hB3.cell 0 rfl
     have u1 := hB3.cell 1 rfl
     have u2 := hB3.cell 2 rfl
     have v0 := hB3.frozen 0
     have v1 := hB3.frozen 1
     have v2 := hB3.frozen 2
     have hlw := (hB3.lt)
     have hz6 := hf.size
     have hzF := hF.size
     have hz1 := hf1.size
     have hWs : W.heap.size = w.heap.size + 3 := by rw [← HW.out]; simp
     generalize prunedT g L at_ t = x at *
     go_wp2_with fail
     refine bodyPost_ret (results_tree2 rfl _ _ (w.heap.size + 2) rfl (hB3.three _ _ _)) rfl ?_
     rw [hE.out]
     refine ⟨A7, c7, rfl, fr_three hF6 (.inr (by omega)) _ _ _, ?_⟩
     exact ((hR7.sub (S' := fun k => k < w.heap.size + 3) fun k _ hk => by have hk : k < w.heap.size + 3 := hk; show k < wr.heap.size; omega).fr (fr_three (S := [w.heap.size + 2]) (Fr.refl _ _) (.inl (by simp)) _ _ _) (by simp)).sub fun k _ hk => by have hk : k < w.heap.size := hk; show k < w.heap.size + 3; omega
 ·have hE := Lib.hid (hperr hez)
  have hd : (ev != 0) = true := by simpa using hez
  clear hpset hpout hpok hparts hperr
  go_wp2_with fail
  refine bodyPost_ret (results_tree2 rfl _ _ (w.heap.size + 2) rfl (hB3.three _ _ _)) rfl ?_
  rw [hE.out]
  exact zeroT_ret hF1 (by omega) _
end

/- The reference's pruning: plain. -/
section
open Go.RowKit
def prunR (g : List Ru) (L at_ : List Int) (t : T) (n : Nat) : T := .mk t.kind t.text (((slotsOf g t.kind).zip t.slots).foldl (edP g (decP g L at_)) ([], n + 1)).1
section
variable {g : List Ru} {L at_ : List Int}
theorem decP_no {n : Nat} {s : Sl} (h : (n : Int) ∉ at_) : decP g L at_ n s = none := by unfold decP; rw [if_neg h]
theorem decP_least {n : Nat} {s : Sl} (h : (n : Int) ∈ at_) (hm : s.many = 0) : decP g L at_ n s = some [leastT g L (lowestL L s.kinds)] := by unfold decP; rw [if_pos h, if_pos hm]
theorem decP_gone {n : Nat} {s : Sl} (h : (n : Int) ∈ at_) (hm : ¬ s.many = 0) : decP g L at_ n s = some [] := by unfold decP; rw [if_pos h, if_neg hm]
theorem rule_slots {t : T} {r : Ru} (hr : ruleAt g t.kind = some r) : slotsOf g t.kind = r.slots := by
 obtain ⟨k, hk, hg, _⟩ := ruleAt_some hr
 rw [hk]
 exact slotsOf_at hg
theorem pr_no {y : T} {n : Nat} {s : Sl} (hv : Val g y) (h : (n : Int) ∉ at_) : nodeE g (decP g L at_) y s n = ([prunR g L at_ y n], n + y.nodes) := by
 obtain ⟨r, hr, _⟩ := val_parts hv
 have h1 := nodeE_snd (g := g) (dec := decP g L at_) y hv s n
 refine Prod.ext ?_ h1
 rw [nodeE_none (decP_no h) hr]
 unfold prunR
 rw [rule_slots hr]
theorem prunedT_eq {t : T} (hv : Val g t) (h0 : (0 : Int) ∉ at_) : prunedT g L at_ t = prunR g L at_ t 0 := by
 have h1 := prunedT_one (g := g) (L := L) (at_ := at_) h0 hv
 have h2 := pr_no (g := g) (L := L) (at_ := at_) (n := 0) (s := slot0) hv (by simpa using h0)
 rw [h1] at h2
 have := congrArg Prod.fst h2
 simpa using this
theorem ed_le (dec : Dec) (S : List Sl) (Q : List (List T)) (n i : Nat) (N : Nat) (h : ((S.zip Q).foldl (edP g dec) ([], n)).2 = N) : (((S.zip Q).take i).foldl (edP g dec) ([], n)).2 ≤ N := by
 have h1 := fold_take_le (m := fun st : List (List T) × Nat => st.2) (edP_mono (g := g) (dec := dec)) (S.zip Q) ([], n) i
 rw [← h]
 exact h1
end
end

/- Trees made of others are trees of the grammar with no more nodes: plain. -/
section
open Go.RowKit
def nsum (l : List T) : Nat := (l.map T.nodes).sum
theorem nsum_app (a b : List T) : nsum (a ++ b) = nsum a + nsum b := by simp [nsum]
theorem nsum_cons (x : T) (l : List T) : nsum (x :: l) = x.nodes + nsum l := by simp [nsum]
theorem fold_nsum : ∀ (q : List T) (a : Nat), q.foldl nstN a = a + nsum q
  | [], a => rfl
  | x :: q, a => by
    rw [List.foldl_cons, fold_nsum q, nsum_cons]
    show a + x.nodes + nsum q = _
    omega
theorem fold2_nsum : ∀ (Q : List (List T)) (a : Nat), fold2 nstN a Q = a + (Q.map nsum).sum
  | [], a => rfl
  | q :: Q, a => by
    show fold2 nstN (q.foldl nstN a) Q = _
    rw [fold2_nsum Q, fold_nsum, List.map_cons, List.sum_cons]
    omega
theorem pre_at {α : Type} {a b : List α} (h : a <+: b) {i : Nat} {x : α} (hx : a[i]? = some x) : b[i]? = some x := by
 obtain ⟨t, rfl⟩ := h
 rw [List.getElem?_append_left (List.getElem?_eq_some_iff.1 hx).1]
 exact hx
theorem val_mk {g : List Ru} {k : Int} {x : ByteArray} {R : List (List T)} {r : Ru} (hr : ruleAt g k = some r) (hx : x.size ≤ 16) (hl : R.length = r.slots.length) (hb : badRows r.slots R = false) (he : x.toList.isEmpty = true ∨ r.leaf = true) (hs : ∀ q ∈ R, ∀ y ∈ q, Val g y) : Val g (.mk k x R) := by
 show nodeErr g (.mk k x R) = 0
 have hr' : ruleAt g (T.mk k x R).kind = some r := hr
 rw [node_on hr' (by show ¬ 16 < x.size; omega) ?_ hb]
 ·exact err_none _ hs
 ·show (((!x.toList.isEmpty) && !r.leaf) || (R.length : Int) != r.slots.length) = false
  rw [hl]
  rcases he with h | h <;> simp [h]
theorem bad_row_parts {s : Sl} {q : List T} (h : badRow s q = false) : (s.many = 0 → q.length = 1) ∧ (s.many = 1 → q.length ≤ 1) ∧ ∀ x ∈ q, x.kind ∈ s.kinds := by
 unfold badRow at h
 simp only [Bool.or_eq_false_iff, Bool.and_eq_false_iff, List.any_eq_false] at h
 obtain ⟨⟨h1, h2⟩, h3⟩ := h
 refine ⟨fun hm => ?_, fun hm => ?_, fun x hx => ?_⟩
 ·rcases h1 with h1 | h1
  ·simp [hm] at h1
  ·simp at h1
   omega
 ·rcases h2 with h2 | h2
  ·simp [hm] at h2
  ·simp at h2
   omega
 ·have := h3 x hx
  simpa using this
structure Fit (g : List Ru) (p : Sp) (l : List T) : Prop where
 one : p.slot.many = 0 → l.length = 1
 few : l.length ≤ 1
 val : ∀ x ∈ l, Val g x ∧ x.kind ∈ p.slot.kinds
 less : nsum l < p.tree.nodes
structure Made (g : List Ru) (s : Sl) (x : T) (hit : Prop) (l : List T) : Prop where
 one : s.many = 0 → l.length = 1
 few : l.length ≤ 1
 val : ∀ y ∈ l, Val g y ∧ (y.kind = x.kind ∨ y.kind ∈ s.kinds)
 le : nsum l ≤ x.nodes
 less : hit → nsum l < x.nodes
section
variable {g : List Ru} {dec : Dec}
def HitIn (dec : Dec) (n : Nat) (l : List Sp) : Prop := ∃ i p, l[i]? = some p ∧ (dec (n + i) p.slot).isSome = true
theorem made_row {N0 : Nat} {s : Sl} {d : Int} {F : List Sp} (hG : ∀ i p, F[i]? = some p → ∀ l, dec (N0 + i) p.slot = some l → Fit g p l) : ∀ (q : List T) (st : List T × Nat) (out : List Sp),
    (∀ x ∈ q, x.kind ∈ s.kinds) → (∀ x ∈ q, ∀ n, (∀ i p, (spotsT g x s (d + 1))[i]? = some p → ∀ l, dec (n + i) p.slot = some l → Fit g p l) → Made g s x (HitIn dec n (spotsT g x s (d + 1))) (nodeE g dec x s n).1) →
    (∀ x ∈ q, ∀ n, (nodeE g dec x s n).2 = n + (spotsT g x s (d + 1)).length) → st.2 = N0 + out.length → (q.foldl (spotX g s d) out) <+: F →
    ∃ l, (q.foldl (edX g dec s) st).1 = st.1 ++ l ∧ (q.foldl (edX g dec s) st).2 = N0 + (q.foldl (spotX g s d) out).length ∧ (∀ y ∈ l, Val g y ∧ y.kind ∈ s.kinds) ∧ (s.many = 0 → l.length = q.length) ∧ l.length ≤ q.length ∧ nsum l ≤ nsum q ∧
      ((∃ i p, out.length ≤ i ∧ (q.foldl (spotX g s d) out)[i]? = some p ∧ (dec (N0 + i) p.slot).isSome = true) → nsum l < nsum q)
  | [], st, out, _, _, _, hn, _ => ⟨[], by simp, hn, by simp, fun _ => rfl, Nat.le_refl _, Nat.le_refl _, fun ⟨i, p, h1, h2, _⟩ => by
      have := (List.getElem?_eq_some_iff.1 h2).1
      simp at this
      omega⟩
  | x :: q, st, out, hk, hm, hs, hn, hp => by
    rw [List.foldl_cons] at hp
    have hpre : spotX g s d out x <+: q.foldl (spotX g s d) (spotX g s d out x) := by
      have : ∀ (q : List T) (o : List Sp), o <+: q.foldl (spotX g s d) o := by
        intro q
        induction q with
        | nil => exact fun o => List.prefix_refl _
        | cons y q ih => exact fun o => List.IsPrefix.trans (List.prefix_append _ _) (ih (spotX g s d o y))
      exact this q _
    have hxl : (spotX g s d out x).length = out.length + (spotsT g x s (d + 1)).length := by unfold spotX; rw [List.length_append]
    have hat : ∀ i p, (spotsT g x s (d + 1))[i]? = some p → F[out.length + i]? = some p := fun i p h => by
      have h1 : (spotX g s d out x)[out.length + i]? = some p := by
        unfold spotX
        rw [List.getElem?_append_right (by omega), show out.length + i - out.length = i by omega]
        exact h
      exact pre_at (hpre.trans hp) h1
    have h1 := hm x (by simp) st.2 fun i p h l hl => hG (out.length + i) p (hat i p h) l (by rw [← Nat.add_assoc, ← hn]; exact hl)
    obtain ⟨l, e1, e2, e3, e4, e5, e6, e7⟩ := made_row hG q (edX g dec s st x) (spotX g s d out x) (fun y hy => hk y (by simp [hy])) (fun y hy => hm y (by simp [hy])) (fun y hy => hs y (by simp [hy])) (by
      show (nodeE g dec x s st.2).2 = _
      rw [hs x (by simp), hxl, hn]
      omega) hp
    refine ⟨(nodeE g dec x s st.2).1 ++ l, ?_, ?_, ?_, ?_, ?_, ?_, ?_⟩
    · rw [List.foldl_cons, e1]
      unfold edX
      rw [List.append_assoc]
    · rw [List.foldl_cons, e2, List.foldl_cons]
    · intro y hy
      rcases List.mem_append.1 hy with hy | hy
      · obtain ⟨h2, h3⟩ := h1.val y hy
        refine ⟨h2, ?_⟩
        rcases h3 with h3 | h3
        · rw [h3]; exact hk x (by simp)
        · exact h3
      · exact e3 y hy
    · intro h0
      rw [List.length_append, h1.one h0, e4 h0, List.length_cons]
      omega
    · have := h1.few
      rw [List.length_append, List.length_cons]
      omega
    · rw [nsum_app, nsum_cons]
      have := h1.le
      omega
    · rintro ⟨i, p, hi, hpi, hd⟩
      rw [nsum_app, nsum_cons]
      rw [List.foldl_cons] at hpi
      have hle := h1.le
      by_cases hlt : i < (spotX g s d out x).length
      · have h2 : (spotX g s d out x)[i]? = some p := by
          have h3 := List.getElem?_eq_getElem hlt
          have h4 := pre_at hpre h3
          rw [hpi] at h4
          rw [h3, h4]
        have h5 : (spotsT g x s (d + 1))[i - out.length]? = some p := by
          unfold spotX at h2
          rwa [List.getElem?_append_right hi] at h2
        have := h1.less ⟨i - out.length, p, h5, by rw [hn, show N0 + out.length + (i - out.length) = N0 + i by omega]; exact hd⟩
        omega
      · have := e7 ⟨i, p, Nat.le_of_not_lt hlt, hpi, hd⟩
        omega
theorem spotP_pre (d : Int) : ∀ (Z : List (Sl × List T)) (o : List Sp), o <+: Z.foldl (spotP g d) o
  | [], o => List.prefix_refl _
  | z :: Z, o => by
    have h : ∀ (q : List T) (o : List Sp), o <+: q.foldl (spotX g z.1 d) o := by
      intro q
      induction q with
      | nil => exact fun o => List.prefix_refl _
      | cons y q ih => exact fun o => List.IsPrefix.trans (List.prefix_append _ _) (ih (spotX g z.1 d o y))
    exact (h z.2 o).trans (spotP_pre d Z (spotP g d o z))
theorem made_rows {N0 : Nat} {d : Int} {F : List Sp} (hG : ∀ i p, F[i]? = some p → ∀ l, dec (N0 + i) p.slot = some l → Fit g p l) : ∀ (S : List Sl) (Q : List (List T)) (st : List (List T) × Nat) (out : List Sp), S.length = Q.length → badRows S Q = false →
    (∀ q ∈ Q, ∀ x ∈ q, ∀ s n, (∀ i p, (spotsT g x s (d + 1))[i]? = some p → ∀ l, dec (n + i) p.slot = some l → Fit g p l) → Made g s x (HitIn dec n (spotsT g x s (d + 1))) (nodeE g dec x s n).1) →
    (∀ q ∈ Q, ∀ x ∈ q, ∀ s n, (nodeE g dec x s n).2 = n + (spotsT g x s (d + 1)).length) → st.2 = N0 + out.length → ((S.zip Q).foldl (spotP g d) out) <+: F →
    ∃ R, ((S.zip Q).foldl (edP g dec) st).1 = st.1 ++ R ∧ R.length = Q.length ∧ badRows S R = false ∧ (∀ r ∈ R, ∀ y ∈ r, Val g y) ∧ (R.map nsum).sum ≤ (Q.map nsum).sum ∧
      ((∃ i p, out.length ≤ i ∧ ((S.zip Q).foldl (spotP g d) out)[i]? = some p ∧ (dec (N0 + i) p.slot).isSome = true) → (R.map nsum).sum < (Q.map nsum).sum)
  | [], Q, st, out, hl, _, _, _, _, _ => by
    have : Q = [] := List.eq_nil_of_length_eq_zero hl.symm
    subst this
    refine ⟨[], by simp, rfl, rfl, by simp, Nat.le_refl _, fun ⟨i, p, h1, h2, _⟩ => ?_⟩
    have := (List.getElem?_eq_some_iff.1 h2).1
    simp at this
    omega
  | s :: S, Q, st, out, hl, hb, hm, hs, hn, hp => by
    cases Q with
    | nil => simp at hl
    | cons q Q =>
      have hb' : badRow s q = false ∧ badRows S Q = false := by
        unfold badRows at hb ⊢
        rw [List.zip_cons_cons, List.any_cons, Bool.or_eq_false_iff] at hb
        exact hb
      obtain ⟨b1, b2, b3⟩ := bad_row_parts hb'.1
      rw [List.zip_cons_cons, List.foldl_cons] at hp
      have hpre := spotP_pre (g := g) d (S.zip Q) (spotP g d out (s, q))
      obtain ⟨l, e1, e2, e3, e4, e5, e6, e7⟩ := made_row (s := s) hG q ([], st.2) out b3 (fun x hx n h => hm q (by simp) x hx s n h) (fun x hx n => hs q (by simp) x hx s n) hn (hpre.trans hp)
      obtain ⟨R, r1, r2, r3, r4, r5, r6⟩ := made_rows hG S Q (edP g dec st (s, q)) (spotP g d out (s, q)) (by simpa using hl) hb'.2 (fun p h => hm p (by simp [h])) (fun p h => hs p (by simp [h])) e2 hp
      refine ⟨l :: R, ?_, by rw [List.length_cons, r2, List.length_cons], ?_, ?_, ?_, ?_⟩
      · rw [List.zip_cons_cons, List.foldl_cons, r1]
        have h1 : (edP g dec st (s, q)).1 = st.1 ++ [l] := by
          show st.1 ++ [(q.foldl (edX g dec s) ([], st.2)).1] = _
          rw [e1]
          rfl
        rw [h1, List.append_assoc]
        rfl
      · unfold badRows at r3 ⊢
        rw [List.zip_cons_cons, List.any_cons, r3, Bool.or_false]
        exact row_fine (fun h0 => by rw [e4 h0]; exact b1 h0) (fun h1 => Nat.le_trans e5 (b2 h1)) fun x hx => (e3 x hx).2
      · intro r hr y hy
        rcases List.mem_cons.1 hr with rfl | hr
        · exact (e3 y hy).1
        · exact r4 r hr y hy
      · simp only [List.map_cons, List.sum_cons]
        omega
      · rintro ⟨i, p, hi, hpi, hd⟩
        rw [List.zip_cons_cons, List.foldl_cons] at hpi
        simp only [List.map_cons, List.sum_cons]
        by_cases hlt : i < (spotP g d out (s, q)).length
        · have h2 : (spotP g d out (s, q))[i]? = some p := by
            have h3 := List.getElem?_eq_getElem hlt
            have h4 := pre_at hpre h3
            rw [hpi] at h4
            rw [h3, h4]
          have := e7 ⟨i, p, hi, h2, hd⟩
          omega
        · have := r6 ⟨i, p, Nat.le_of_not_lt hlt, hpi, hd⟩
          omega
theorem made_node (t : T) : Val g t → ∀ (s : Sl) (d : Int) (n : Nat), (∀ i p, (spotsT g t s d)[i]? = some p → ∀ l, dec (n + i) p.slot = some l → Fit g p l) → Made g s t (HitIn dec n (spotsT g t s d)) (nodeE g dec t s n).1 := by
  induction t using T.ind with
  | h t ih =>
    intro hv s d n hG
    obtain ⟨r, hr, hx16, hlen, hbad, hemp, hsub⟩ := val_parts hv
    rcases hd : dec n s with _ | l
    · have hnl := spots_len t hv s d
      rw [spotsT_eq, restT_eq hr] at hG ⊢
      have hF : ∀ i p, ((r.slots.zip t.slots).foldl (spotP g d) [])[i]? = some p → ∀ l, dec (n + 1 + i) p.slot = some l → Fit g p l := fun i p h l hl =>
        hG (i + 1) p (by rw [List.getElem?_cons_succ]; exact h) l (by rw [show n + (i + 1) = n + 1 + i by omega]; exact hl)
      obtain ⟨R, r1, r2, r3, r4, r5, r6⟩ := made_rows (N0 := n + 1) hF r.slots t.slots ([], n + 1) [] hlen.symm hbad (fun q hq x hx s n h => ih q hq x hx (hsub q hq x hx) s (d + 1) n h)
        (fun q hq x hx s n => by rw [nodeE_snd x (hsub q hq x hx), spots_len x (hsub q hq x hx)]) rfl (List.prefix_refl _)
      rw [nodeE_none hd hr, r1, List.nil_append]
      have hnm : (T.mk t.kind t.text R).nodes = 1 + (R.map nsum).sum := by rw [T.nodes_eq]; exact fold2_nsum _ _
      have hnt : t.nodes = 1 + (t.slots.map nsum).sum := by rw [T.nodes_eq]; exact fold2_nsum _ _
      refine ⟨fun _ => rfl, Nat.le_refl _, ?_, ?_, ?_⟩
      · intro y hy
        obtain rfl := List.mem_singleton.1 hy
        exact ⟨val_mk hr hx16 (by rw [r2]; exact hlen) r3 hemp r4, .inl rfl⟩
      · show (T.mk t.kind t.text R).nodes + 0 ≤ _
        omega
      · rintro ⟨i, p, hp, hh⟩
        show (T.mk t.kind t.text R).nodes + 0 < _
        match i, hp with
        | 0, hp =>
          obtain rfl := Option.some.inj hp
          have hh' : (dec n s).isSome = true := hh
          rw [hd] at hh'
          cases hh'
        | i + 1, hp =>
          rw [List.getElem?_cons_succ] at hp
          have := r6 ⟨i, p, Nat.zero_le _, hp, by rw [show n + 1 + i = n + (i + 1) by omega]; exact hh⟩
          omega
    · have hf := hG 0 ⟨t, s, d, 1 + (restT g t d).length⟩ (by rw [spotsT_eq]; rfl) l hd
      rw [nodeE_some hd]
      exact ⟨hf.one, hf.few, fun y hy => ⟨(hf.val y hy).1, .inr (hf.val y hy).2⟩, Nat.le_of_lt hf.less, fun _ => hf.less⟩
end
end

/- The reference's Prune: plain. -/
section
open Go.RowKit
theorem prunIx_lt {L : List Int} {l : List Sp} {k : Nat} {x : Int} (h : x ∈ prunIx L l k) : 0 ≤ x ∧ x < k := by
 obtain ⟨i, hi, rfl⟩ := List.mem_map.1 h
 have hi := (List.mem_filter.1 hi).1
 rw [List.mem_range] at hi
 omega
theorem prun_lt {g : List Ru} {L : List Int} {t : T} {can : List Int} (h : prunOf g L t = (can, 0)) : ∀ x ∈ can, 0 ≤ x ∧ x < (can.length : Int) + (t.nodes : Int) := by
 intro x hx
 have hz : chkT g L t = 0 := by
  unfold prunOf at h
  split at h
  ·exact congrArg Prod.snd h
  ·rename_i h1; simpa using h1
 obtain ⟨_, _, _, hv, _⟩ := chkT_zero hz
 rw [prunOf_ok hz] at h
 have hc : prunIx L (spotsT g t slot0 1) (spotsT g t slot0 1).length = can := congrArg Prod.fst h
 have := prunIx_lt (by rw [hc]; exact hx)
 rw [spots_len t hv] at this
 omega
section
variable {g : List Ru} {L : List Int} {t : T} {at_ can : List Int}
theorem rprune_out {x : Int} (h : prunOf g L t = (can, 0)) (hx : x ∈ at_) (hx2 : x ∉ can) : pruneOf g L t at_ = (zeroT, 1) := by
 rcases hs : isSet ((can.length : Int) + (t.nodes : Int)) at_ with _ | _
 ·exact pruneOf_set h hs
 ·exact pruneOf_out h hs hx hx2
theorem rprune_low {i : Nat} {x y : Int} (h : prunOf g L t = (can, 0)) (hx : at_[i]? = some x) (hy : at_[i + 1]? = some y) (hle : y ≤ x) : pruneOf g L t at_ = (zeroT, 1) := by
 refine pruneOf_set h ?_
 rcases hs : isSet ((can.length : Int) + (t.nodes : Int)) at_ with _ | _
 ·rfl
 ·have hp := (isSet_iff.1 hs).2
  obtain ⟨h1, rfl⟩ := List.getElem?_eq_some_iff.1 hx
  obtain ⟨h2, rfl⟩ := List.getElem?_eq_some_iff.1 hy
  have := List.pairwise_iff_getElem.1 hp i (i + 1) h1 h2 (by omega)
  omega
def RiseTo (at_ : List Int) (k : Nat) : Prop := ∀ i x y, i + 1 < k → at_[i]? = some x → at_[i + 1]? = some y → x < y
theorem RiseTo.next {k : Nat} (h : RiseTo at_ k) (hs : ∀ x y, 0 < k → at_[k - 1]? = some x → at_[k]? = some y → x < y) : RiseTo at_ (k + 1) := fun i x y hi hx hy => by
 by_cases hik : i + 1 < k
 ·exact h i x y hik hx hy
 ·obtain rfl : k = i + 1 := by omega
  exact hs x y (by omega) (by simpa using hx) hy
theorem rise_pair (h : RiseTo at_ at_.length) : at_.Pairwise (· < ·) := by
  refine List.pairwise_iff_getElem.2 fun i j hi hj hij => ?_
  induction j with
  | zero => omega
  | succ j ih =>
    have h1 := h j at_[j] at_[j + 1] hj (List.getElem?_eq_getElem (by omega)) (List.getElem?_eq_getElem hj)
    by_cases he : i = j
    · subst he; exact h1
    · exact Int.lt_trans (ih (by omega) (by omega)) h1
theorem rprune_ok (h : prunOf g L t = (can, 0)) (hr : RiseTo at_ at_.length) (hx : ∀ x ∈ at_, x ∈ can) : pruneOf g L t at_ = (prunedT g L at_ t, 0) :=
 pruneOf_ok h (isSet_iff.2 ⟨fun x hm => prun_lt h x (hx x hm), rise_pair hr⟩) hx
end
end

/- Pruning and hoisting: the trees that come of them are trees of the grammar with fewer nodes; plain. -/
section
open Go.RowKit
section
variable {g : List Ru}
theorem spotX_pre (s : Sl) (d : Int) : ∀ (q : List T) (o : List Sp), o <+: q.foldl (spotX g s d) o
 | [], o => List.prefix_refl _
 | y :: q, o => List.IsPrefix.trans (List.prefix_append _ _) (spotX_pre s d q (spotX g s d o y))
theorem pre_back {α : Type} {a b : List α} (h : a <+: b) {i : Nat} (hi : i < a.length) : b[i]? = a[i]? := by
 rw [List.getElem?_eq_getElem hi]
 exact pre_at h (List.getElem?_eq_getElem hi)
theorem seg_row (s : Sl) (d : Int) : ∀ (q : List T) (out : List Sp) (j : Nat), out.length ≤ j → j < (q.foldl (spotX g s d) out).length →
    ∃ x ∈ q, ∃ o, o ≤ j ∧ j < o + (spotsT g x s (d + 1)).length ∧ ∀ i, i < (spotsT g x s (d + 1)).length → (q.foldl (spotX g s d) out)[o + i]? = (spotsT g x s (d + 1))[i]?
  | [], out, j, h1, h2 => by simp at h2; omega
  | x :: q, out, j, h1, h2 => by
    rw [List.foldl_cons] at h2 ⊢
    by_cases hj : j < (spotX g s d out x).length
    · have hl : (spotX g s d out x).length = out.length + (spotsT g x s (d + 1)).length := by unfold spotX; rw [List.length_append]
      refine ⟨x, by simp, out.length, h1, by omega, fun i hi => ?_⟩
      rw [pre_back (spotX_pre s d q _) (by omega)]
      unfold spotX
      rw [List.getElem?_append_right (by omega), show out.length + i - out.length = i by omega]
    · obtain ⟨y, hy, o, h3, h4, h5⟩ := seg_row s d q (spotX g s d out x) j (by omega) h2
      exact ⟨y, by simp [hy], o, h3, h4, h5⟩
theorem seg_rows (d : Int) : ∀ (Z : List (Sl × List T)) (out : List Sp) (j : Nat), out.length ≤ j → j < (Z.foldl (spotP g d) out).length →
    ∃ z ∈ Z, ∃ x ∈ z.2, ∃ o, o ≤ j ∧ j < o + (spotsT g x z.1 (d + 1)).length ∧ ∀ i, i < (spotsT g x z.1 (d + 1)).length → (Z.foldl (spotP g d) out)[o + i]? = (spotsT g x z.1 (d + 1))[i]?
  | [], out, j, h1, h2 => by simp at h2; omega
  | z :: Z, out, j, h1, h2 => by
    rw [List.foldl_cons] at h2 ⊢
    by_cases hj : j < (spotP g d out z).length
    · obtain ⟨x, hx, o, h3, h4, h5⟩ := seg_row z.1 d z.2 out j h1 hj
      refine ⟨z, by simp, x, hx, o, h3, h4, fun i hi => ?_⟩
      have h6 := h5 i hi
      have h7 : o + i < (spotP g d out z).length := by
        have : (spotsT g x z.1 (d + 1))[i]? = some (spotsT g x z.1 (d + 1))[i] := List.getElem?_eq_getElem hi
        rw [this] at h6
        exact (List.getElem?_eq_some_iff.1 h6).1
      rw [pre_back (spotP_pre d Z _) h7]
      exact h6
    · obtain ⟨z', hz, x, hx, o, h3, h4, h5⟩ := seg_rows d Z (spotP g d out z) j (by omega) h2
      exact ⟨z', by simp [hz], x, hx, o, h3, h4, h5⟩
theorem spots_nest (t : T) : Val g t → ∀ (s : Sl) (d : Int) (i j : Nat) (p q : Sp), (spotsT g t s d)[i]? = some p → (spotsT g t s d)[j]? = some q → i ≤ j → j < i + p.size → j + q.size ≤ i + p.size := by
  induction t using T.ind with
  | h t ih =>
    intro hv s d i j p q hi hj hij hlt
    obtain ⟨r, hr, _, hlen, _, _, hsub⟩ := val_parts hv
    match i, hi with
    | 0, hi =>
      have h1 := spots_in t hv s d j q hj
      have h2 := spots_in t hv s d 0 p hi
      have h3 : p.tree = t := by
        rw [spotsT_eq] at hi
        obtain rfl := Option.some.inj hi
        rfl
      rw [h3] at h2
      omega
    | i + 1, hi =>
      obtain ⟨j', rfl⟩ : ∃ j', j = j' + 1 := ⟨j - 1, by omega⟩
      have hi' := hi
      rw [spotsT_eq, List.getElem?_cons_succ, restT_eq hr] at hi
      rw [spotsT_eq, List.getElem?_cons_succ, restT_eq hr] at hj
      obtain ⟨z, hz, x, hx, o, h3, h4, h5⟩ := seg_rows d (r.slots.zip t.slots) [] i (Nat.zero_le _) (List.getElem?_eq_some_iff.1 hi).1
      have hz2 : z.2 ∈ t.slots := (List.of_mem_zip hz).2
      have hxv := hsub _ hz2 x hx
      obtain ⟨i2, rfl⟩ : ∃ i2, i = o + i2 := ⟨i - o, by omega⟩
      have hp2 : (spotsT g x z.1 (d + 1))[i2]? = some p := by rw [← h5 i2 (by omega)]; exact hi
      have h6 := spots_in x hxv z.1 (d + 1) i2 p hp2
      have hsl := spots_len x hxv z.1 (d + 1)
      obtain ⟨j2, rfl⟩ : ∃ j2, j' = o + j2 := ⟨j' - o, by omega⟩
      have hq2 : (spotsT g x z.1 (d + 1))[j2]? = some q := by rw [← h5 j2 (by omega)]; exact hj
      have := ih _ hz2 x hx hxv z.1 (d + 1) i2 j2 p q hp2 hq2 (by omega) (by omega)
      omega
theorem spot_depth (t : T) : Val g t → ∀ (s : Sl) (d : Int) (p : Sp), p ∈ spotsT g t s d → d ≤ p.depth ∧ p.depth < d + t.nodes := by
  induction t using T.ind with
  | h t ih =>
    intro hv s d p hp
    obtain ⟨r, hr, _, hlen, _, _, hsub⟩ := val_parts hv
    have hn := T.nodes_pos t
    rw [spotsT_eq, restT_eq hr] at hp
    rcases List.mem_cons.1 hp with rfl | hp
    · show d ≤ d ∧ d < d + t.nodes
      omega
    · obtain ⟨j, hj⟩ := List.getElem?_of_mem hp
      rcases spot_at_rows _ _ j hj with h | ⟨z, hz, x, hx, i, o, h1, _, _⟩
      · simp at h
      · have hz2 : z.2 ∈ t.slots := (List.of_mem_zip hz).2
        have h2 := ih _ hz2 x hx (hsub _ hz2 x hx) z.1 (d + 1) p (List.mem_of_getElem? h1)
        obtain ⟨i', hi'⟩ := List.getElem?_of_mem hz2
        obtain ⟨k', hk'⟩ := List.getElem?_of_mem hx
        have := nodes_below (t := t) (show Hid _ from hi') (show Hid _ from hk')
        omega

def CanAll (g : List Ru) (L : List Int) (t : T) (at_ : List Int) : Prop := ∀ x ∈ at_, ∃ (i : Nat) (p : Sp), x = i ∧ 0 < i ∧ (spotsT g t slot0 1)[i]? = some p ∧ prunB L p = true
theorem CanAll.zero {L : List Int} {t : T} {at_ : List Int} (h : CanAll g L t at_) : (0 : Int) ∉ at_ := fun h0 => by
 obtain ⟨i, p, h1, h2, _⟩ := h 0 h0
 omega
theorem CanAll.sub {L : List Int} {t : T} {a b : List Int} (h : CanAll g L t a) (hs : ∀ x ∈ b, x ∈ a) : CanAll g L t b := fun x hx => h x (hs x hx)
theorem pruned_ok {L at_ : List Int} {t : T} (hro : RulesOk g) (hok : LOk g L) (hle : ∀ k : Nat, k < g.length → getI L k ≤ 1024) (hv : Val g t) (hat : CanAll g L t at_) :
  Val g (prunedT g L at_ t) ∧ (prunedT g L at_ t).nodes ≤ t.nodes ∧ (at_ ≠ [] → (prunedT g L at_ t).nodes < t.nodes) := by
 have h1 := made_node (dec := decP g L at_) t hv slot0 1 0 fun i p hp l hl => by
  rw [Nat.zero_add] at hl
  by_cases hi : (i : Int) ∈ at_
  ·obtain ⟨i', p', h2, h3, h4, h5⟩ := hat _ hi
   obtain rfl : i = i' := by omega
   obtain rfl : p = p' := Option.some.inj (hp.symm.trans h4)
   have hin := spots_in t hv slot0 1 i p hp
   have hmem : p ∈ restT g t 1 := by
    obtain ⟨k', rfl⟩ : ∃ k', i = k' + 1 := ⟨i - 1, by omega⟩
    rw [spotsT_eq, List.getElem?_cons_succ] at hp
    exact List.mem_of_getElem? hp
   obtain ⟨⟨hk0, hkr⟩, _⟩ := spots_ok hro t hv 1 p hmem
   by_cases hm : p.slot.many = 0
   ·rw [decP_least hi hm] at hl
    obtain rfl := Option.some.inj hl
    have hlm := lowest_mem (L := L) hk0
    obtain ⟨h6, h7⟩ := hkr _ hlm
    obtain ⟨j, hj⟩ : ∃ j : Nat, lowestL L p.slot.kinds = j := ⟨(lowestL L p.slot.kinds).toNat, by omega⟩
    have hjl : j < g.length := by omega
    have hz := hle j hjl
    have hpos := hok.sz.all_pos (by decide) hok.ok hok.pos j (by omega) (by omega)
    have hsz : getI L j < (p.size : Int) := by
     unfold prunB at h5
     rw [hm, hj] at h5
     simpa using h5
    have hmu : getI L j < MUCH := Int.lt_of_le_of_lt hz (by decide)
    have hnod := least_nodes hok (getI L j).toNat j hjl (by omega) hmu
    refine ⟨fun _ => rfl, Nat.le_refl _, fun x hx => ?_, ?_⟩
    ·obtain rfl := List.mem_singleton.1 hx
     rw [hj]
     refine ⟨least_val hok hro (getI L j).toNat j hjl (by omega) hmu, ?_⟩
     show (leastF g L (getI L j).toNat j).kind ∈ _
     rw [leastF_kind, ← hj]
     exact hlm
    ·rw [hj]
     show (leastF g L (getI L j).toNat j).nodes + 0 < _
     omega
   ·rw [decP_gone hi hm] at hl
    obtain rfl := Option.some.inj hl
    have := T.nodes_pos p.tree
    exact ⟨fun h => absurd h hm, Nat.zero_le _, (fun x hx => by cases hx), (by show 0 < _; omega)⟩
  ·rw [decP_no hi] at hl
   cases hl
 rw [prunedT_one hat.zero hv] at h1
 refine ⟨(h1.val _ (by simp)).1, ?_, fun hne => ?_⟩
 ·have := h1.le
  simp only [nsum_cons] at this
  have h0 : nsum [] = 0 := rfl
  omega
 ·obtain ⟨x, hx⟩ := List.exists_mem_of_ne_nil _ hne
  obtain ⟨i, p, h2, h3, h4, h5⟩ := hat x hx
  have h6 := h1.less ⟨i, p, h4, by
   rw [Nat.zero_add]
   unfold decP
   rw [if_pos (by rw [← h2]; exact hx)]
   split <;> rfl⟩
  simp only [nsum_cons] at h6
  have h0 : nsum [] = 0 := rfl
  omega
theorem hoist_ok {t x : T} {at_ from_ : Int} (hv : Val g t) (hx : hoistOf g t at_ from_ = some x) : Val g x ∧ x.nodes < t.nodes := by
 unfold hoistOf at hx
 split at hx
 ·cases hx
 ·rename_i ha
  obtain ⟨a, rfl⟩ : ∃ a : Nat, at_ = a := ⟨at_.toNat, by omega⟩
  obtain ⟨p, hp, hx⟩ := Option.bind_eq_some_iff.1 hx
  rw [Int.toNat_natCast] at hp
  unfold hoistP at hx
  split at hx
  ·cases hx
  ·rename_i hf
   obtain ⟨f, rfl⟩ : ∃ f : Nat, from_ = f := ⟨from_.toNat, by omega⟩
   obtain ⟨q, hq, hx⟩ := Option.bind_eq_some_iff.1 hx
   rw [Int.toNat_natCast] at hq
   unfold hoistAt at hx
   split at hx
   ·cases hx
   ·rename_i hk
    obtain rfl := Option.some.inj hx
    have hpi := spots_in t hv slot0 1 a p hp
    have hqi := spots_in t hv slot0 1 f q hq
    have hn := spots_nest t hv slot0 1 a f p q hp hq (by omega) (by omega)
    by_cases ha0 : a = 0
    ·subst ha0
     have hpt : p.tree = t := by
      rw [spotsT_eq] at hp
      obtain rfl := Option.some.inj hp
      rfl
     have he : hoistN g ((0 : Nat) : Int) q.tree t = q.tree := by
      unfold hoistN
      rw [nodeE_some (l := [q.tree]) (by unfold decH; exact if_pos rfl)]
      rfl
     rw [he]
     refine ⟨hqi.1, ?_⟩
     rw [hpt] at hpi
     omega
    ·have hkk : q.tree.kind ∈ p.slot.kinds := by
      by_cases h : q.tree.kind ∈ p.slot.kinds
      ·exact h
      ·exact absurd (.inr ⟨by omega, h⟩) hk
     have h1 := made_node (dec := decH a q.tree) t hv slot0 1 0 fun i p' hp' l hl => by
      rw [Nat.zero_add] at hl
      unfold decH at hl
      split at hl
      ·rename_i hi
       obtain rfl := Option.some.inj hl
       obtain rfl : i = a := by omega
       obtain rfl : p = p' := Option.some.inj (hp.symm.trans hp')
       refine ⟨fun _ => rfl, Nat.le_refl _, fun x hx => ?_, ?_⟩
       ·obtain rfl := List.mem_singleton.1 hx
        exact ⟨hqi.1, hkk⟩
       ·show q.tree.nodes + 0 < _
        omega
      ·cases hl
     rw [hoistN_one hv] at h1
     refine ⟨(h1.val _ (by simp)).1, ?_⟩
     have h6 := h1.less ⟨a, p, hp, by rw [Nat.zero_add]; unfold decH; rw [if_pos rfl]; rfl⟩
     simp only [nsum_cons] at h6
     have h0 : nsum [] = 0 := rfl
     omega
end
end

/- A tree in which a node is replaced keeps those ahead of it: plain. -/
section
open Go.RowKit
section
variable {g : List Ru} {a : Nat} {x : T}
def LowAt (a n m k : Nat) : Prop := (a < n ∨ n + m ≤ a → k = m) ∧ (n ≤ a → a < n + m → a - n + 1 ≤ k)
theorem low_row : ∀ (q : List T) (st : List T × Nat), (∀ y ∈ q, ∀ n, LowAt a n y.nodes (replT g a x y n).nodes) →
    ∃ l, (q.foldl (rX g a x) st).1 = st.1 ++ l ∧ (q.foldl (rX g a x) st).2 = st.2 + nsum q ∧ LowAt a st.2 (nsum q) (nsum l)
  | [], st, _ => ⟨[], by simp, by simp [nsum], fun _ => rfl, fun h1 h2 => by simp [nsum] at h2; omega⟩
  | y :: q, st, h => by
    obtain ⟨l, e1, e2, e3, e4⟩ := low_row q (rX g a x st y) fun z hz => h z (by simp [hz])
    obtain ⟨f1, f2⟩ := h y (by simp) st.2
    have e2' : (rX g a x st y).2 = st.2 + y.nodes := rfl
    rw [e2'] at e2 e3 e4
    refine ⟨replT g a x y st.2 :: l, ?_, ?_, ?_, ?_⟩
    · rw [List.foldl_cons, e1]
      show (st.1 ++ [replT g a x y st.2]) ++ l = _
      rw [List.append_assoc]
      rfl
    · rw [List.foldl_cons, e2, nsum_cons]
      omega
    · intro ho
      rw [nsum_cons] at ho ⊢
      rw [nsum_cons, f1 (by omega), e3 (by omega)]
    · intro h1 h2
      rw [nsum_cons] at h2 ⊢
      by_cases h3 : a < st.2 + y.nodes
      · have := f2 h1 h3
        omega
      · have h4 := f1 (by omega)
        have h5 := e4 (by omega) (by omega)
        omega
theorem low_rows : ∀ (Q : List (List T)) (st : List (List T) × Nat), (∀ q ∈ Q, ∀ y ∈ q, ∀ n, LowAt a n y.nodes (replT g a x y n).nodes) →
    ∃ R, (Q.foldl (rP g a x) st).1 = st.1 ++ R ∧ (Q.foldl (rP g a x) st).2 = st.2 + (Q.map nsum).sum ∧ LowAt a st.2 (Q.map nsum).sum (R.map nsum).sum
  | [], st, _ => ⟨[], by simp, by simp, fun _ => rfl, fun h1 h2 => by simp at h2; omega⟩
  | q :: Q, st, h => by
    obtain ⟨l, d1, d2, d3, d4⟩ := low_row q ([], st.2) (h q (by simp))
    obtain ⟨R, e1, e2, e3, e4⟩ := low_rows Q (rP g a x st q) fun z hz => h z (by simp [hz])
    have p1 : (rP g a x st q).1 = st.1 ++ [l] := by
      show st.1 ++ [(q.foldl (rX g a x) ([], st.2)).1] = _
      rw [d1]
      rfl
    have p2 : (rP g a x st q).2 = st.2 + nsum q := d2
    rw [p2] at e2 e3 e4
    have d3' : a < st.2 ∨ st.2 + nsum q ≤ a → nsum l = nsum q := d3
    have d4' : st.2 ≤ a → a < st.2 + nsum q → a - st.2 + 1 ≤ nsum l := d4
    refine ⟨l :: R, ?_, ?_, ?_, ?_⟩
    · rw [List.foldl_cons, e1, p1, List.append_assoc]
      rfl
    · rw [List.foldl_cons, e2, List.map_cons, List.sum_cons]
      omega
    · intro ho
      simp only [List.map_cons, List.sum_cons] at ho ⊢
      rw [d3' (by omega), e3 (by omega)]
    · intro h1 h2
      simp only [List.map_cons, List.sum_cons] at h2 ⊢
      by_cases h3 : a < st.2 + nsum q
      · have := d4' h1 h3
        omega
      · have h4 := d3' (by omega)
        have h5 := e4 (by omega) (by omega)
        omega
theorem low_node (t : T) : Val g t → ∀ n, LowAt a n t.nodes (replT g a x t n).nodes := by
  induction t using T.ind with
  | h t ih =>
    intro hv n
    obtain ⟨r, _, _, _, _, _, hsub⟩ := val_parts hv
    by_cases hn : n = a
    · subst hn
      rw [repl_at rfl]
      have := T.nodes_pos t
      have := T.nodes_pos x
      exact ⟨fun h => by omega, fun _ _ => by omega⟩
    · rw [repl_not hv (by omega)]
      obtain ⟨R, e1, e2, e3, e4⟩ := low_rows t.slots ([], n + 1) fun q hq y hy m => ih q hq y hy (hsub q hq y hy) m
      rw [e1, List.nil_append]
      have hnm : (T.mk t.kind t.text R).nodes = 1 + (R.map nsum).sum := by rw [T.nodes_eq]; exact fold2_nsum _ _
      have hnt : t.nodes = 1 + (t.slots.map nsum).sum := by rw [T.nodes_eq]; exact fold2_nsum _ _
      have e3' : a < n + 1 ∨ n + 1 + (t.slots.map nsum).sum ≤ a → (R.map nsum).sum = (t.slots.map nsum).sum := e3
      have e4' : n + 1 ≤ a → a < n + 1 + (t.slots.map nsum).sum → a - (n + 1) + 1 ≤ (R.map nsum).sum := e4
      refine ⟨fun h => ?_, fun h1 h2 => ?_⟩
      · rw [hnm, hnt, e3' (by omega)]
      · have := e4' (by omega) (by omega)
        omega
theorem hoist_low {t y : T} {b : Int} (hv : Val g t) (h : hoistOf g t (a : Int) b = some y) : a < y.nodes := by
 have h0 := h
 unfold hoistOf at h
 split at h
 ·cases h
 ·rename_i ha
  obtain ⟨p, hp, h⟩ := Option.bind_eq_some_iff.1 h
  unfold hoistP at h
  split at h
  ·cases h
  ·obtain ⟨q, hq, h⟩ := Option.bind_eq_some_iff.1 h
   unfold hoistAt at h
   split at h
   ·cases h
   ·obtain rfl := Option.some.inj h
    have h1 := (low_node (g := g) (a := a) (x := q.tree) t hv 0).2 (Nat.zero_le _) (by omega)
    have h2 : hoistN g (a : Int) q.tree t = replT g (a : Int) q.tree t 0 := rfl
    rw [h2]
    omega
end
end

/- hoisted and Hoist of the program. -/
section
open Go.RowKit
set_option maxRecDepth 20000 in
set_option maxHeartbeats 3200000 in
theorem hoisted1_any (g : List Ru) (hro : RulesOk g) (b6 off6 b7 b8 b9 len cl f nn : Nat) (B C : Option Addr) (cb cc : Nat) (at_ : Int) (n : Nat) (s : Sl) (x : T) (S : Nat → Prop) (w : World) (h8 : w.cell? ⟨b8, 0, none⟩ = some (.int .i64 at_)) (h7 : w.cell? ⟨b7, 0, none⟩ = some (.slice (some ⟨b6, off6, none⟩) len cl))
  (h9 : w.cell? ⟨b9, 0, none⟩ = some (.int .i64 (f : Nat))) (hf : f < len) (hlen : len ≤ 100000) (e0 : w.cell? ⟨b6, off6 + f * 8, none⟩ = some (.int .i64 x.kind)) (e1 : w.cell? ⟨b6, off6 + f * 8 + 1, none⟩ = some (.string x.text)) (e2 : w.cell? ⟨b6, off6 + f * 8 + 2, none⟩ = some (.slice C x.slots.length cc))
  (hx : RH S nn w C cc x) (hv : Val g x) (hn : x.nodes ≤ 100000) :
  Calls Tryz.prog 84 #[.int .i64 (n : Nat), .agg #[.int .u8 s.many, .slice B s.kinds.length cb, .string s.between], .pointer (some ⟨b8, 0, none⟩), .pointer (some ⟨b7, 0, none⟩), .pointer (some ⟨b9, 0, none⟩)] w (RetDec nn w (decH at_ x n s)) := by
 have hF : Fr [] w (w.alloc (.cells #[.int .u8 s.many, .slice B s.kinds.length cb, .string s.between] 55)) := frx
 have h8' := hF.cell h8 (by simp)
 by_cases hm : (n : Int) = at_
 ·subst hm
  have hE : Hid (decH (n : Int) x n s = some [x]) := if_pos rfl
  have h7' := hF.cell h7 (by simp)
  have h9' := hF.cell h9 (by simp)
  have e0' := hF.cell e0 (by simp)
  have e1' := hF.cell e1 (by simp)
  have e2' := hF.cell e2 (by simp)
  go_enter Tryz.func84, Tryz.ntmps84
  go_wp2_with fail
  refine (twin_any g hro nn x C cc S _ (hx.fr0 hF) hv hn).mono ?_
  rintro e w1 ⟨A5, c5, rfl, hf5, hR5⟩
  have hz := hF.size
  have hz5 := hf5.size
  have hRx : RH (fun k => k < w.heap.size) nn w1 A5 c5 x := hR5.sub fun k _ hk => Nat.lt_of_lt_of_le hk hz
  have hRow : RowAt (fun k => k < w.heap.size) nn (w1.alloc (.cells (tcells x A5 c5) 27)) (some ⟨w1.heap.size, 0, none⟩) 1 [x] := RowAt.one (by omega) hRx
  go_wp2_with fail
  go_ret2
  rw [hE.out]
  exact ⟨_, _, rfl, (hF.trans hf5).alloc _, hRow⟩
 ·have hE : Hid (decH at_ x n s = none) := if_neg hm
  go_enter Tryz.func84, Tryz.ntmps84
  go_wp2_with fail
  go_ret2
  rw [hE.out]
  exact ⟨none, 0, rfl, hF, RowAt.nil_⟩
def RetHo (n : Nat) (w : World) (r : Option T) (e : Ending) (w' : World) : Prop := ∃ A c, e = .returned (.tuple #[.agg (tcells (r.getD zeroT) A c), .bool r.isSome]) ∧ Fr [] w w' ∧ RH (fun k => k < w.heap.size) n w' A c (r.getD zeroT)
theorem zeroT_ho {w w' : World} {g : Nat} (hf : Fr [] w w') (hg : w.heap.size ≤ g) (n : Nat) (hn : 0 < n) : RetHo n w none (.returned (.tuple #[.agg #[.int .i64 0, .string emptyS, .slice none 0 0], .bool false])) (((w'.setCell ⟨g, 0, none⟩ (.int .i64 0)).setCell ⟨g, 1, none⟩ (.string emptyS)).setCell ⟨g, 2, none⟩ (.slice none 0 0)) :=
 ⟨none, 0, rfl, fr_three hf (.inr hg) _ _ _, by
  obtain ⟨m, rfl⟩ : ∃ m, n = m + 1 := ⟨n - 1, by omega⟩
  exact zeroT_at _ _ _⟩
theorem RetHo.drewN {n k : Nat} {w w' : World} {r : Option T} {e : Ending} (h : RetHo n w r e w') : RetHo n w r e (w'.drewN k) := by
 obtain ⟨A, c, he, hf, hR⟩ := h
 exact ⟨A, c, he, hf.drewN _, hR.fr0 ((Fr.refl _ _).drewN _)⟩
set_option maxRecDepth 20000 in
set_option maxHeartbeats 6400000 in
theorem hoisted_any (A AT AL : Option Addr) (c cT cL : Nat) (g : List Ru) (hro : RulesOk g) (base nn : Nat) (t : T) (S : Nat → Prop) (G : List SpH) (at_ from_ : Int) (w : World) (ha : RRu w A c g) (hR : RH S nn w AT cT t) (hval : Val g t) (hn : t.nodes ≤ 1024)
  (hGm : G.map (·.1) = spotsT g t slot0 1) (hG : Cells w AL (G.flatMap encS)) (hGo : ∀ p ∈ G, SpOk base nn w p) :
  Calls Tryz.prog 58 #[.agg #[.slice A g.length c], .agg (tcells t AT cT), .slice AL t.nodes cL, .int .i64 at_, .int .i64 from_] w (RetHo (nn + nn) w (hoistOf g t at_ from_)) := by
 have hnn : 0 < nn + nn := by
  rcases nn with _ | nn
  ·exact absurd hR id
  ·omega
 have hGl : Hid (G.length = t.nodes) := by show _ = _; rw [← spots_len t hval slot0 1, ← hGm, List.length_map]
 obtain ⟨b6, off6, rfl, hcell⟩ := hG (by rw [encS_len, hGl.out]; have := T.nodes_pos t; omega)
 have hsp : Hid (∀ (k : Nat), k < t.nodes → ∃ p : SpH, G[k]? = some p ∧ (spotsT g t slot0 1)[k]? = some p.1 ∧ SpOk base nn w p ∧ (∀ j u, (encS p)[j]? = some u → w.cell? ⟨b6, off6 + k * 8 + j, none⟩ = some u) ∧ Val g p.1.tree ∧ p.1.tree.nodes = p.1.size ∧ k + p.1.size ≤ t.nodes) := fun k hk => by
  obtain ⟨p, h1⟩ : ∃ p, G[k]? = some p := ⟨_, List.getElem?_eq_getElem (by rw [hGl.out]; exact hk)⟩
  have h2 : (spotsT g t slot0 1)[k]? = some p.1 := by rw [← hGm, List.getElem?_map, h1]; rfl
  obtain ⟨h3, h4, h5⟩ := spots_in t hval slot0 1 k _ h2
  refine ⟨p, h1, h2, hGo _ (List.mem_of_getElem? h1), fun j u hu => ?_, h3, h4, h5⟩
  rw [Nat.add_assoc]
  exact hcell _ _ (encS_at G k _ h1 j u hu)
 obtain ⟨W, hW⟩ : ∃ W, W = (((((w.alloc (.cells #[.slice A g.length c] 24)).alloc (.cells (tcells t AT cT) 27)).alloc (.cells #[.slice (some ⟨b6, off6, none⟩) t.nodes cL] 83)).alloc (.cells #[.int .i64 at_] 3)).alloc (.cells #[.int .i64 from_] 3)).alloc (.cells #[.int .i64 0, .string emptyS, .slice none 0 0] 27) := ⟨_, rfl⟩
 have hF : Fr [] w W := by rw [hW]; exact frx
 have hB1 : Blk W w.heap.size 24 #[.slice A g.length c] := by rw [hW]; exact (((((Blk.new w _ _ _ rfl).alloc _).alloc _).alloc _).alloc _).alloc _
 have hB2 : Blk W (w.heap.size + 1) 27 (tcells t AT cT) := by rw [hW]; exact ((((Blk.new _ _ _ _ (by simp)).alloc _).alloc _).alloc _).alloc _
 have hB3 : Blk W (w.heap.size + 1 + 1) 83 #[.slice (some ⟨b6, off6, none⟩) t.nodes cL] := by rw [hW]; exact (((Blk.new _ _ _ _ (by simp)).alloc _).alloc _).alloc _
 have hB4 : Blk W (w.heap.size + 1 + 1 + 1) 3 #[.int .i64 at_] := by rw [hW]; exact ((Blk.new _ _ _ _ (by simp)).alloc _).alloc _
 have hB5 : Blk W (w.heap.size + 1 + 1 + 1 + 1) 3 #[.int .i64 from_] := by rw [hW]; exact (Blk.new _ _ _ _ (by simp)).alloc _
 have hB6 : Blk W (w.heap.size + 1 + 1 + 1 + 1 + 1) 27 #[.int .i64 0, .string emptyS, .slice none 0 0] := by rw [hW]; exact Blk.new _ _ _ _ (by simp)
 have a4 := hB4.cell 0 rfl
 have a3 := hB3.cell 0 rfl
 have a5 := hB5.cell 0 rfl
 have u0 := hB6.cell 0 rfl
 have u1 := hB6.cell 1 rfl
 have u2 := hB6.cell 2 rfl
 have v0 := hB6.frozen 0
 have v1 := hB6.frozen 1
 have v2 := hB6.frozen 2
 have HW := Lib.hid hW.symm
 clear hcell hG hGm hGo hW
 by_cases hA0 : at_ < 0
 ·have hE := Lib.hid (hoist_no (g := g) (t := t) (from_ := from_) (.inl hA0))
  have d1 : decide (at_ < 0) = true := decide_eq_true hA0
  have hA0 := Lib.hid hA0
  go_enter Tryz.func58, Tryz.ntmps58
  go_wp2_with fail
  rw [HW.out]
  go_quiet (fail)
  go_wp2
  refine bodyPost_ret (results_tree2 rfl _ _ (w.heap.size + 1 + 1 + 1 + 1 + 1) rfl ((hB6.three _ _ _).drewN _)) rfl ?_
  rw [hE.out]
  exact (zeroT_ho hF (by omega) _ hnn).drewN
 by_cases hA1 : (t.nodes : Int) ≤ at_
 ·have hE := Lib.hid (hoist_no (g := g) (t := t) (from_ := from_) (.inr hA1))
  have d1 : decide (at_ < 0) = false := decide_eq_false hA0
  have d2 : decide ((t.nodes : Int) ≤ at_) = true := decide_eq_true hA1
  have hA0 := Lib.hid hA0
  have hA1 := Lib.hid hA1
  go_enter Tryz.func58, Tryz.ntmps58
  go_wp2_with fail
  rw [HW.out]
  go_quiet (fail)
  go_wp2
  refine bodyPost_ret (results_tree2 rfl _ _ (w.heap.size + 1 + 1 + 1 + 1 + 1) rfl ((hB6.three _ _ _).drewN _)) rfl ?_
  rw [hE.out]
  exact (zeroT_ho hF (by omega) _ hnn).drewN
 by_cases hz : at_ = 0
 ·subst hz
  have hal : 0 < t.nodes := T.nodes_pos t
  have hn0 : ¬ t.nodes = 0 := by omega
  have d2 : decide ((t.nodes : Int) ≤ 0) = false := decide_eq_false hA1
  obtain ⟨⟨p, pC, pD⟩, _, hp2, hpo, hpc, hpv, hpn, hps⟩ := hsp.out 0 hal
  have hpE : Hid (hoistOf g t 0 from_ = hoistP g t (spotsT g t slot0 1) 0 from_ p) := hoist_p (a := 0) (from_ := from_) hal hp2
  have z7 : W.cell? ⟨b6, off6 + 7, none⟩ = some (.int .i64 (p.size : Nat)) := by have := hF.cell (hpc 7 _ rfl) (by simp); simpa using this
  simp only at hps hpn hpv
  have HP2 := Lib.hid hp2
  have HPO := Lib.hid hpo
  have HA1 := Lib.hid hA1
  clear hpc hp2 hpo hA0 hA1
  by_cases hF0 : from_ ≤ (0 : Int)
  ·have hE := Lib.hid (hpE.out.trans (hoist_p_no (g := g) (t := t) (p := p) (l := spotsT g t slot0 1) (.inl hF0)))
   have d3 : decide (from_ ≤ (0 : Int)) = true := decide_eq_true hF0
   have hF0 := Lib.hid hF0
   go_enter Tryz.func58, Tryz.ntmps58
   go_wp2_with fail
   rw [HW.out]
   go_quiet (fail)
   go_wp2
   refine bodyPost_ret (results_tree2 rfl _ _ (w.heap.size + 1 + 1 + 1 + 1 + 1) rfl ((hB6.three _ _ _).drewN _)) rfl ?_
   rw [hE.out]
   exact (zeroT_ho hF (by omega) _ hnn).drewN
  have d3 : decide (from_ ≤ (0 : Int)) = false := decide_eq_false hF0
  by_cases hF1 : (p.size : Int) ≤ from_
  ·have hE := Lib.hid (hpE.out.trans (hoist_p_no (g := g) (t := t) (p := p) (l := spotsT g t slot0 1) (.inr (by omega))))
   have d4 : decide ((p.size : Int) ≤ from_) = true := decide_eq_true hF1
   have hF0 := Lib.hid hF0
   have hF1 := Lib.hid hF1
   go_enter Tryz.func58, Tryz.ntmps58
   go_wp2_with fail
   rw [HW.out]
   go_quiet (fail)
   go_wp2
   refine bodyPost_ret (results_tree2 rfl _ _ (w.heap.size + 1 + 1 + 1 + 1 + 1) rfl ((hB6.three _ _ _).drewN _)) rfl ?_
   rw [hE.out]
   exact (zeroT_ho hF (by omega) _ hnn).drewN
  have d4 : decide ((p.size : Int) ≤ from_) = false := decide_eq_false hF1
  obtain ⟨f, rfl⟩ : ∃ f : Nat, from_ = f := ⟨from_.toNat, by omega⟩
  have hfl : f < t.nodes := by omega
  obtain ⟨⟨q, ⟨qC, qc⟩, qD⟩, _, hq2, hqo, hqc, hqv, hqn, hqs⟩ := hsp.out f hfl
  have hqE := Lib.hid (hpE.out.trans (hoist_q (t := t) (g := g) (at_ := (0 : Int)) (p := p) (f := f) (by omega) hq2))
  have y0 := hqc 0 _ rfl
  have y1 := hqc 1 _ rfl
  have y2 := hqc 2 _ rfl
  have y0W := hF.cell y0 (by simp)
  have hqt := hqo.tree
  simp only at y0 y1 y2 y0W hqv hqn hqs hqt
  rw [Nat.add_zero] at y0 y0W
  have hqle : q.tree.nodes ≤ 100000 := by omega
  have Y1 := Lib.hid y1
  have Y2 := Lib.hid y2
  have Y0 := Lib.hid y0
  have t0 := hB2.cell 0 rfl
  clear y0 y1 y2 hqc hq2 hqo
  have hf0 : ¬ f = 0 := by omega
  have d4n : decide (p.size ≤ f) = false := decide_eq_false (by omega)
  have HF0 := Lib.hid hF0
  have HF1 := Lib.hid hF1
  clear hF0 hF1
  by_cases hk : q.tree.kind = t.kind
  ·have hE := Lib.hid (hqE.out.trans (hoist_yes (by rintro (⟨_, h⟩ | ⟨h, _⟩); exact h hk; exact absurd h (by omega))))
   have k3 : (q.tree.kind != t.kind) = false := by simp [hk]
   have hk := Lib.hid hk
   go_enter Tryz.func58, Tryz.ntmps58
   go_wp2_with fail
   rw [HW.out]
   go_quiet (fail)
   have g0 := hB1.cell 0 rfl
   have g3 := hB3.cell 0 rfl
   have g4 := hB4.cell 0 rfl
   have g5 := hB5.cell 0 rfl
   obtain ⟨W2, hW2⟩ : ∃ W2, W2 = W.alloc (.cells #[.slice A g.length c, .int .i64 0, .func (.func 84) #[] #[.pointer (some ⟨w.heap.size + 1 + 1 + 1, 0, none⟩), .pointer (some ⟨w.heap.size + 1 + 1, 0, none⟩), .pointer (some ⟨w.heap.size + 1 + 1 + 1 + 1, 0, none⟩)]] TE) := ⟨_, rfl⟩
   have hf3 : Fr [] W W2 := by rw [hW2]; exact frx
   have hBE : Blk W2 W.heap.size TE #[.slice A g.length c, .int .i64 ((0 : Nat) : Int), .func (.func 84) #[] #[.pointer (some ⟨w.heap.size + 1 + 1 + 1, 0, none⟩), .pointer (some ⟨w.heap.size + 1 + 1, 0, none⟩), .pointer (some ⟨w.heap.size + 1 + 1 + 1 + 1, 0, none⟩)]] := by rw [hW2]; exact Blk.new _ _ _ _ rfl
   have x0 := (hB2.fr hf3 (by simp)).cell 0 rfl
   have x1 := (hB2.fr hf3 (by simp)).cell 1 rfl
   have x2 := (hB2.fr hf3 (by simp)).cell 2 rfl
   rw [hW2] at x0 x1 x2
   have HW2 := Lib.hid hW2.symm
   clear hW2
   have HF : ∀ (w' : World) (n : Nat) (s : Sl) (B : Option Addr) (cb : Nat), Fr [] W w' → Rd W (.int .i64) B cb s.kinds → AskOk g n s → Calls Tryz.prog 84 (#[.int .i64 (n : Nat), .agg #[.int .u8 s.many, .slice B s.kinds.length cb, .string s.between]] ++ #[.pointer (some ⟨w.heap.size + 1 + 1 + 1, 0, none⟩), .pointer (some ⟨w.heap.size + 1 + 1, 0, none⟩), .pointer (some ⟨w.heap.size + 1 + 1 + 1 + 1, 0, none⟩)]) w' (RetDec nn w' (decH (0 : Int) q.tree n s)) := by
    intro w' n s B cb hfw _ _
    have hfw' := hF.trans hfw
    exact hoisted1_any g hro b6 off6 (w.heap.size + 1 + 1) (w.heap.size + 1 + 1 + 1) (w.heap.size + 1 + 1 + 1 + 1) t.nodes cL f nn B qC cb qc (0 : Int) n s q.tree (fun k => base ≤ k) w' (hfw.cell g4 (by simp)) (hfw.cell g3 (by simp)) (hfw.cell g5 (by simp)) hfl (by omega) (hfw'.cell Y0.out (by simp)) (hfw'.cell Y1.out (by simp)) (hfw'.cell Y2.out (by simp)) (hqt.fr0 hfw') hqv hqle
   have hC := fun k => node_any A c g hro W (ha.fr0 hF) W.heap.size (Nat.le_refl _) 84 _ (fun _ _ => rfl) nn (decH (0 : Int) q.tree) decH_one HF nn t AT cT S slot0 none 0 0 (W2.drewN k) (hR.fr0 hF) (hf3.drewN k) (hBE.drewN k) (Rd.nil_ _ _) hval (.inl ⟨rfl, rfl⟩) (by omega)
   rw [hoistN_one hval] at hC
   have HC := Lib.hid hC
   clear hC HF
   go_wp2_with fail
   rw [HW2.out]
   clear x0 x1 x2 g0 g3 g4 g5
   refine (HC.out _).mono ?_
   rintro e w4 ⟨A7, c7, rfl, hf4, hR7, _⟩
   obtain ⟨b, off, x, A8, c8, rfl, hx, e0, e1, e2, hRx⟩ := hR7.at_ (k := 0) (by simp)
   obtain rfl : hoistN g (0 : Int) q.tree t = x := by simpa using hx.out
   have hz3 := hf3.size
   have hzW := hB6.lt
   have hF4 : Fr [] W w4 := (hf3.drewN _).trans2 hf4 fun k hk => .inr (by simp at hk; omega)
   have hB6 := hB6.fr hF4 (by simp)
   have u0 := hB6.cell 0 rfl
   have u1 := hB6.cell 1 rfl
   have u2 := hB6.cell 2 rfl
   have v0 := hB6.frozen 0
   have v1 := hB6.frozen 1
   have v2 := hB6.frozen 2
   generalize hoistN g (0 : Int) q.tree t = x at *
   rw [Nat.zero_mul, Nat.add_zero] at e0 e1 e2
   go_wp2_with fail
   refine bodyPost_ret (results_tree2 rfl _ _ (w.heap.size + 1 + 1 + 1 + 1 + 1) rfl (hB6.three _ _ _)) rfl ?_
   rw [hE.out]
   refine ⟨A8, c8, rfl, fr_three (hF.trans hF4) (.inr (by omega)) _ _ _, ?_⟩
   exact ((RH.sub (S' := fun k => k < w.heap.size + 6) hRx fun k _ hk => by have hk : k < w.heap.size + 6 := hk; show k < W2.heap.size; omega).fr (fr_three (S := [w.heap.size + 1 + 1 + 1 + 1 + 1]) (Fr.refl _ _) (.inl (by simp)) _ _ _) (fun k hk => by have hk : k = w.heap.size + 1 + 1 + 1 + 1 + 1 := (by simpa using hk); subst hk; show w.heap.size + 1 + 1 + 1 + 1 + 1 < w.heap.size + 6; omega)).sub fun k _ hk => by have hk : k < w.heap.size := hk; show k < w.heap.size + 6; omega
  ·have hE := Lib.hid (hqE.out.trans (hoist_bad (.inl ⟨rfl, hk⟩)))
   have k3 : (q.tree.kind != t.kind) = true := by simpa using hk
   have hk := Lib.hid hk
   go_enter Tryz.func58, Tryz.ntmps58
   go_wp2_with fail
   rw [HW.out]
   go_quiet (fail)
   go_wp2
   refine bodyPost_ret (results_tree2 rfl _ _ (w.heap.size + 1 + 1 + 1 + 1 + 1) rfl ((hB6.three _ _ _).drewN _)) rfl ?_
   rw [hE.out]
   exact (zeroT_ho hF (by omega) _ hnn).drewN
 ·obtain ⟨a, rfl⟩ : ∃ a : Nat, at_ = a := ⟨at_.toNat, by omega⟩
  have hal : a < t.nodes := by omega
  have d1 : decide ((a : Int) < 0) = false := decide_eq_false hA0
  have d2 : decide ((t.nodes : Int) ≤ (a : Int)) = false := decide_eq_false hA1
  have d2n : decide (t.nodes ≤ a) = false := decide_eq_false (by omega)
  obtain ⟨⟨p, pC, pD⟩, _, hp2, hpo, hpc, hpv, hpn, hps⟩ := hsp.out a hal
  have hpE := Lib.hid (hoist_p (from_ := from_) hal hp2)
  have z7 := hF.cell (hpc 7 _ rfl) (by simp)
  have z4 := hF.cell (hpc 4 _ rfl) (by simp)
  have hpk := (hpo.kinds).fr0 hF
  simp only at z7 z4 hps hpn hpv hpk
  have hap : 0 < a := by omega
  have k1 : ((a : Int) == 0) = false := by simpa using hz
  have ha0 : ¬ a = 0 := by omega
  have k2 : decide (0 < (a : Int)) = true := decide_eq_true (by omega)
  have k2n : decide (0 < a) = true := decide_eq_true hap
  have HZ := Lib.hid hz
  have HP2 := Lib.hid hp2
  have HPO := Lib.hid hpo
  have HA1 := Lib.hid hA1
  have HA0 := Lib.hid hA0
  clear hpc hp2 hpo hA0 hA1 hz
  by_cases hF0 : from_ ≤ (a : Int)
  ·have hE := Lib.hid (hpE.out.trans (hoist_p_no (g := g) (t := t) (p := p) (l := spotsT g t slot0 1) (.inl hF0)))
   have d3 : decide (from_ ≤ (a : Int)) = true := decide_eq_true hF0
   have hF0 := Lib.hid hF0
   go_enter Tryz.func58, Tryz.ntmps58
   go_wp2_with fail
   rw [HW.out]
   go_quiet (fail)
   go_wp2
   refine bodyPost_ret (results_tree2 rfl _ _ (w.heap.size + 1 + 1 + 1 + 1 + 1) rfl ((hB6.three _ _ _).drewN _)) rfl ?_
   rw [hE.out]
   exact (zeroT_ho hF (by omega) _ hnn).drewN
  have hwr : IntKind.i64.wrap ((a : Int) + (p.size : Int)) = (a : Int) + (p.size : Int) := IntWalk.i64_in _ (by omega)
  have d3 : decide (from_ ≤ (a : Int)) = false := decide_eq_false hF0
  by_cases hF1 : ((a : Int) + (p.size : Int)) ≤ from_
  ·have hE := Lib.hid (hpE.out.trans (hoist_p_no (g := g) (t := t) (p := p) (l := spotsT g t slot0 1) (.inr (by omega))))
   have d4 : decide (((a : Int) + (p.size : Int)) ≤ from_) = true := decide_eq_true hF1
   have hF0 := Lib.hid hF0
   have hF1 := Lib.hid hF1
   go_enter Tryz.func58, Tryz.ntmps58
   go_wp2_with fail
   rw [HW.out]
   go_quiet (fail)
   go_wp2
   refine bodyPost_ret (results_tree2 rfl _ _ (w.heap.size + 1 + 1 + 1 + 1 + 1) rfl ((hB6.three _ _ _).drewN _)) rfl ?_
   rw [hE.out]
   exact (zeroT_ho hF (by omega) _ hnn).drewN
  have d4 : decide (((a : Int) + (p.size : Int)) ≤ from_) = false := decide_eq_false hF1
  obtain ⟨f, rfl⟩ : ∃ f : Nat, from_ = f := ⟨from_.toNat, by omega⟩
  have hfl : f < t.nodes := by omega
  obtain ⟨⟨q, ⟨qC, qc⟩, qD⟩, _, hq2, hqo, hqc, hqv, hqn, hqs⟩ := hsp.out f hfl
  have hqE := Lib.hid (hpE.out.trans (hoist_q (t := t) (g := g) (at_ := (a : Int)) (p := p) (f := f) (by omega) hq2))
  have y0 := hqc 0 _ rfl
  have y1 := hqc 1 _ rfl
  have y2 := hqc 2 _ rfl
  have y0W := hF.cell y0 (by simp)
  have hqt := hqo.tree
  simp only at y0 y1 y2 y0W hqv hqn hqs hqt
  rw [Nat.add_zero] at y0 y0W
  have hqle : q.tree.nodes ≤ 100000 := by omega
  have Y1 := Lib.hid y1
  have Y2 := Lib.hid y2
  have Y0 := Lib.hid y0
  have t0 := hB2.cell 0 rfl
  clear y0 y1 y2 hqc hq2 hqo
  have d3n : decide (f ≤ a) = false := decide_eq_false (by omega)
  have d4n : decide (a + p.size ≤ f) = false := decide_eq_false (by omega)
  have HF0 := Lib.hid hF0
  have HF1 := Lib.hid hF1
  clear hF0 hF1
  rcases hk : decide (q.tree.kind ∈ p.slot.kinds) with _ | _
  ·have hE := Lib.hid (hqE.out.trans (hoist_bad (.inr ⟨by omega, by simpa using hk⟩)))
   have HKD := Lib.hid hk
   clear hk
   go_enter Tryz.func58, Tryz.ntmps58
   go_wp2_with fail
   rw [HW.out]
   go_quiet (fail)
   go_wp2_with fail
   refine (has_any pD.1 pD.2 p.slot.kinds q.tree.kind _ (hpk.fr0 frx)).mono ?_
   rw [HKD.out]
   rintro e w5 ⟨rfl, n5, rfl⟩
   go_wp2
   refine bodyPost_ret (results_tree2 rfl _ _ (w.heap.size + 1 + 1 + 1 + 1 + 1) rfl ((hB6.three _ _ _).drewN _)) rfl ?_
   rw [hE.out]
   exact (zeroT_ho hF (by omega) _ hnn).drewN
  ·have hE := Lib.hid (hqE.out.trans (hoist_yes (by rintro (⟨h, _⟩ | ⟨_, h⟩); exact absurd h (by omega); exact h (by simpa using hk))))
   have HKD := Lib.hid hk
   clear hk
   go_enter Tryz.func58, Tryz.ntmps58
   go_wp2_with fail
   rw [HW.out]
   go_quiet (fail)
   go_wp2_with fail
   refine (has_any pD.1 pD.2 p.slot.kinds q.tree.kind _ (hpk.fr0 frx)).mono ?_
   rw [HKD.out]
   rintro e w5 ⟨rfl, n5, rfl⟩
   have g0 := hB1.cell 0 rfl
   have g3 := hB3.cell 0 rfl
   have g4 := hB4.cell 0 rfl
   have g5 := hB5.cell 0 rfl
   obtain ⟨W2, hW2⟩ : ∃ W2, W2 = W.alloc (.cells #[.slice A g.length c, .int .i64 0, .func (.func 84) #[] #[.pointer (some ⟨w.heap.size + 1 + 1 + 1, 0, none⟩), .pointer (some ⟨w.heap.size + 1 + 1, 0, none⟩), .pointer (some ⟨w.heap.size + 1 + 1 + 1 + 1, 0, none⟩)]] TE) := ⟨_, rfl⟩
   have hf3 : Fr [] W W2 := by rw [hW2]; exact frx
   have hBE : Blk W2 W.heap.size TE #[.slice A g.length c, .int .i64 ((0 : Nat) : Int), .func (.func 84) #[] #[.pointer (some ⟨w.heap.size + 1 + 1 + 1, 0, none⟩), .pointer (some ⟨w.heap.size + 1 + 1, 0, none⟩), .pointer (some ⟨w.heap.size + 1 + 1 + 1 + 1, 0, none⟩)]] := by rw [hW2]; exact Blk.new _ _ _ _ rfl
   have x0 := (hB2.fr hf3 (by simp)).cell 0 rfl
   have x1 := (hB2.fr hf3 (by simp)).cell 1 rfl
   have x2 := (hB2.fr hf3 (by simp)).cell 2 rfl
   rw [hW2] at x0 x1 x2
   have HW2 := Lib.hid hW2.symm
   clear hW2
   have HF : ∀ (w' : World) (n : Nat) (s : Sl) (B : Option Addr) (cb : Nat), Fr [] W w' → Rd W (.int .i64) B cb s.kinds → AskOk g n s → Calls Tryz.prog 84 (#[.int .i64 (n : Nat), .agg #[.int .u8 s.many, .slice B s.kinds.length cb, .string s.between]] ++ #[.pointer (some ⟨w.heap.size + 1 + 1 + 1, 0, none⟩), .pointer (some ⟨w.heap.size + 1 + 1, 0, none⟩), .pointer (some ⟨w.heap.size + 1 + 1 + 1 + 1, 0, none⟩)]) w' (RetDec nn w' (decH (a : Int) q.tree n s)) := by
    intro w' n s B cb hfw _ _
    have hfw' := hF.trans hfw
    exact hoisted1_any g hro b6 off6 (w.heap.size + 1 + 1) (w.heap.size + 1 + 1 + 1) (w.heap.size + 1 + 1 + 1 + 1) t.nodes cL f nn B qC cb qc (a : Int) n s q.tree (fun k => base ≤ k) w' (hfw.cell g4 (by simp)) (hfw.cell g3 (by simp)) (hfw.cell g5 (by simp)) hfl (by omega) (hfw'.cell Y0.out (by simp)) (hfw'.cell Y1.out (by simp)) (hfw'.cell Y2.out (by simp)) (hqt.fr0 hfw') hqv hqle
   have hC := fun k => node_any A c g hro W (ha.fr0 hF) W.heap.size (Nat.le_refl _) 84 _ (fun _ _ => rfl) nn (decH (a : Int) q.tree) decH_one HF nn t AT cT S slot0 none 0 0 (W2.drewN k) (hR.fr0 hF) (hf3.drewN k) (hBE.drewN k) (Rd.nil_ _ _) hval (.inl ⟨rfl, rfl⟩) (by omega)
   rw [hoistN_one hval] at hC
   have HC := Lib.hid hC
   clear hC HF
   go_wp2_with fail
   rw [HW2.out]
   clear x0 x1 x2 g0 g3 g4 g5
   refine (HC.out _).mono ?_
   rintro e w4 ⟨A7, c7, rfl, hf4, hR7, _⟩
   obtain ⟨b, off, x, A8, c8, rfl, hx, e0, e1, e2, hRx⟩ := hR7.at_ (k := 0) (by simp)
   obtain rfl : hoistN g (a : Int) q.tree t = x := by simpa using hx.out
   have hz3 := hf3.size
   have hzW := hB6.lt
   have hF4 : Fr [] W w4 := (hf3.drewN _).trans2 hf4 fun k hk => .inr (by simp at hk; omega)
   have hB6 := hB6.fr hF4 (by simp)
   have u0 := hB6.cell 0 rfl
   have u1 := hB6.cell 1 rfl
   have u2 := hB6.cell 2 rfl
   have v0 := hB6.frozen 0
   have v1 := hB6.frozen 1
   have v2 := hB6.frozen 2
   generalize hoistN g (a : Int) q.tree t = x at *
   rw [Nat.zero_mul, Nat.add_zero] at e0 e1 e2
   go_wp2_with fail
   refine bodyPost_ret (results_tree2 rfl _ _ (w.heap.size + 1 + 1 + 1 + 1 + 1) rfl (hB6.three _ _ _)) rfl ?_
   rw [hE.out]
   refine ⟨A8, c8, rfl, fr_three (hF.trans hF4) (.inr (by omega)) _ _ _, ?_⟩
   exact ((RH.sub (S' := fun k => k < w.heap.size + 6) hRx fun k _ hk => by have hk : k < w.heap.size + 6 := hk; show k < W2.heap.size; omega).fr (fr_three (S := [w.heap.size + 1 + 1 + 1 + 1 + 1]) (Fr.refl _ _) (.inl (by simp)) _ _ _) (fun k hk => by have hk : k = w.heap.size + 1 + 1 + 1 + 1 + 1 := (by simpa using hk); subst hk; show w.heap.size + 1 + 1 + 1 + 1 + 1 < w.heap.size + 6; omega)).sub fun k _ hk => by have hk : k < w.heap.size := hk; show k < w.heap.size + 6; omega
end

/- Hoist of the program. -/
section
open Go.RowKit
def hoistE (g : List Ru) (L : List Int) (t : T) (at_ from_ : Int) : T × Int := if chkT g L t ≠ 0 then (zeroT, chkT g L t) else match hoistOf g t at_ from_ with
 | none => (zeroT, 1)
 | some x => (x, 0)
theorem hoistE_err {g : List Ru} {L : List Int} {t : T} {at_ from_ : Int} (h : chkT g L t ≠ 0) : hoistE g L t at_ from_ = (zeroT, chkT g L t) := if_pos h
theorem hoistE_ok {g : List Ru} {L : List Int} {t : T} {at_ from_ : Int} (h : chkT g L t = 0) : hoistE g L t at_ from_ = ((hoistOf g t at_ from_).getD zeroT, if (hoistOf g t at_ from_).isSome then 0 else 1) := by
 unfold hoistE
 rw [if_neg (by simp [h])]
 cases hoistOf g t at_ from_ <;> rfl
abbrev zeroO : Obj := .cells #[.int .i64 0, .string emptyS, .slice none 0 0] 27
theorem calls_z {f : FuncId} {args : Array Value} {V : World} {post : Ending → World → Prop} (hp : ∀ e w', post e w' → Fr [] (V.alloc zeroO) w') (h : Calls Tryz.prog f args (V.alloc zeroO) post) :
  Calls Tryz.prog f args (V.alloc zeroO) fun e w' => post e w' ∧ Blk w' V.heap.size 27 #[.int .i64 0, .string emptyS, .slice none 0 0] :=
 Calls.mono h fun e w' hpw => ⟨hpw, (Blk.new V _ _ _ rfl).fr (hp e w' hpw) (by simp)⟩
theorem calls_zd {f : FuncId} {args : Array Value} {V U : World} {post : Ending → World → Prop} (hU : Fr [] (V.alloc zeroO) U) (hp : ∀ e w', post e w' → Fr [] U w') (h : Calls Tryz.prog f args U post) :
  Calls Tryz.prog f args U fun e w' => post e w' ∧ Blk w' V.heap.size 27 #[.int .i64 0, .string emptyS, .slice none 0 0] :=
 Calls.mono h fun e w' hpw => ⟨hpw, ((Blk.new V _ _ _ rfl).fr hU (by simp)).fr (hp e w' hpw) (by simp)⟩
theorem RH_far {n g : Nat} {w V : World} {A : Option Addr} {c : Nat} {x : T} {a0 a1 a2 : Value} (h : RH (fun k => k < w.heap.size ∨ k = g) n V A c x) : RH (fun k => k < w.heap.size) n (((V.setCell ⟨g, 0, none⟩ a0).setCell ⟨g, 1, none⟩ a1).setCell ⟨g, 2, none⟩ a2) A c x :=
 (h.fr (Z := [g]) (fr_three (Fr.refl _ _) (.inl (by simp)) _ _ _) (by simp)).sub fun _ _ hk => .inl hk
end

/- What the reference's Spots returns. -/
section
open Go.RowKit
abbrev SpR := SpH × Int
def encR (p : SpR) : List Value := [.int .i64 p.1.1.tree.kind, .string p.1.1.tree.text, .slice p.1.2.1.1 p.1.1.tree.slots.length p.1.2.1.2, .int .i64 p.2, .int .u8 p.1.1.slot.many, .slice p.1.2.2.1 p.1.1.slot.kinds.length p.1.2.2.2, .string p.1.1.slot.between, .int .i64 p.1.1.depth]
theorem encR_len (G : List SpR) : (G.flatMap encR).length = G.length * 8 := by
 induction G with
 | nil => rfl
 | cons p G ih => rw [List.flatMap_cons, List.length_append, ih]; simp [encR]; omega
theorem encR_at : ∀ (G : List SpR) (k : Nat) (p : SpR), G[k]? = some p → ∀ j u, (encR p)[j]? = some u → (G.flatMap encR)[k * 8 + j]? = some u
  | [], _, _, h => by simp at h
  | q :: G, 0, p, h => fun j u hu => by
    have h : q = p := by simpa using h
    subst h
    rw [List.flatMap_cons, Nat.zero_mul, Nat.zero_add, List.getElem?_append_left (List.getElem?_eq_some_iff.1 hu).1]
    exact hu
  | q :: G, k + 1, p, h => fun j u hu => by
    rw [List.flatMap_cons, List.getElem?_append_right (by simp [encR]; omega)]
    have h2 := encR_at G k p (by simpa using h) j u hu
    have e : (k + 1) * 8 + j - (encR q).length = k * 8 + j := by simp [encR]; omega
    rw [e]
    exact h2
def RetSpR (g : List Ru) (t : T) (n : Nat) (w : World) (e : Ending) (w' : World) : Prop :=
 ∃ (A : Option Addr) (c : Nat) (G : List SpR), e = .returned (.slice A t.nodes c) ∧ Fr [] w w' ∧ G.map (·.1.1) = spotsT g t slot0 1 ∧ Cells w' A (G.flatMap encR) ∧ ∀ p ∈ G, SpOk w.heap.size n w' p.1
end

/- Own of the reference. -/
section
open Go.RowKit
theorem upon_makeN {P : Program} {w : World} {o : Oper} {a : Act} {K : Act → World → Prop} {Q : Exit → Act → World → Prop} {t e : TypeId} {z : Value} {bytes : Nat} (E : Elem P t e z 1 bytes) (hz1 : z.cells = #[z]) (n : Nat) (hb : bytes * n ≤ 140737488355328)
  (hK : ∀ w', w'.ownsRow w.heap.size e 1 (.slice (some ⟨w.heap.size, 0, none⟩) n n) n (List.replicate n z) → w.grownBy w' none → K (a.put o.dst (.slice (some ⟨w.heap.size, 0, none⟩) n n)) w') :
  Oper.upon P o a K Q (((Instr.makeSlice t (.int .i64 n) (.int .i64 n)).run P w).andThen fun a w' => Result.ok (Next.value a) w') := by
 obtain ⟨i, hi, hz, hsz, hby⟩ := info_parts E.inf
 have hm : n ≤ maxLen := by
  have hh : 1 * n ≤ bytes * n := Nat.mul_le_mul_right _ E.byt
  unfold maxLen
  omega
 obtain ⟨w', hrun, r1, r2⟩ := run_make_full (P := P) w w.heap.size t e i z 1 E.und hi hz hsz .i64 .i64 n (by rw [hby]; omega) hm (Nat.le_refl _)
 rw [hz1, Nat.mul_one, toList_madeCells_one] at r1
 rw [hrun]
 exact hK w' r1 r2
abbrev nilRow : RowH := ([], none, 0)
def mkRows (n : Nat) (G : List RowH) : List RowH := G ++ List.replicate (n - G.length) nilRow
theorem mkRows_len {n : Nat} {G : List RowH} (h : G.length ≤ n) : (mkRows n G).length = n := by simp [mkRows]; omega
theorem mkRows_set {n : Nat} {G : List RowH} {p : RowH} (h : G.length < n) : (mkRows n G).set G.length p = mkRows n (G ++ [p]) := by
 unfold mkRows
 obtain ⟨q, hq⟩ : ∃ q, n - G.length = q + 1 := ⟨n - G.length - 1, by omega⟩
 rw [hq, List.set_append_right _ _ (Nat.le_refl _), Nat.sub_self, List.replicate_succ, List.set_cons_zero, List.length_append, List.append_assoc]
 simp only [List.length_cons, List.length_nil]
 rw [show n - (G.length + (0 + 1)) = q by omega]
 rfl
theorem mkRows_at {n : Nat} {G : List RowH} (h : G.length < n) : (mkRows n G)[G.length]? = some nilRow := by
 unfold mkRows
 rw [List.getElem?_append_right (Nat.le_refl _), Nat.sub_self, List.getElem?_replicate, if_pos (by omega)]
theorem mkRows_nil (n : Nat) : mkRows n [] = List.replicate n nilRow := by simp [mkRows]
theorem mkRows_all {n : Nat} {G : List RowH} (h : G.length = n) : mkRows n G = G := by simp [mkRows, h]
theorem set_same {α : Type} {l : List α} {k : Nat} {v : α} (h : l[k]? = some v) : l.set k v = l := by
 obtain ⟨hk, rfl⟩ := List.getElem?_eq_some_iff.1 h
 exact List.set_getElem_self hk
theorem set_at {α : Type} {l : List α} {k : Nat} {v : α} (h : k < l.length) : ((l.set k v).toArray)[k]? = some v := by simp [h]
theorem GR.upd {n base g k i : Nat} {w w' : World} {L : List RowH} {p : RowH} (h : GR n base w (some ⟨g, 0, none⟩) k L) (hk : L.length = k) (h0 : i < k) (hf : Fr [g] w w') (hb : Blk w' g 59 ((L.map encRow).set i (encRow p)).toArray) (hp : RowAt (Bad base (some ⟨g, 0, none⟩)) n w' p.2.1 p.2.2 p.1) :
  GR n base w' (some ⟨g, 0, none⟩) k (L.set i p) := by
 have hbase := own_block h.own rfl
 obtain ⟨h1, h2, _⟩ := own_hdr h.own
 rw [← List.map_set] at hb
 have hle : k ≤ maxLen := h2
 subst hk
 refine ⟨⟨by simp, .inr ⟨g, L.length, _, by rw [List.length_set], hbase.1, hb, by rw [List.length_set]; exact Nat.le_refl _, h2, by simp, by simp; exact List.take_of_length_le (by simp)⟩⟩, fun q hq => ?_⟩
 rcases List.mem_or_eq_of_mem_set hq with hq | rfl
 ·exact RowAt.fr (h.rows q hq) hf fun k hk => by
   obtain rfl : k = g := by simpa using hk
   exact .inr ⟨_, rfl, rfl⟩
 ·exact hp
set_option maxRecDepth 20000 in
set_option maxHeartbeats 6400000 in
theorem Own_any (g : List Ru) (hro : RulesOk g) (nn : Nat) : ∀ (t : T) (AT : Option Addr) (cT : Nat) (S : Nat → Prop) (w : World), RH S nn w AT cT t → Val g t → t.nodes ≤ 100000 → Calls Tryz.prog 86 #[.agg (tcells t AT cT)] w (RetT nn w t) := by
  induction nn with
  | zero => intro t AT cT S w h; exact absurd h id
  | succ nn ih =>
    intro t AT cT S w hR hval hn
    obtain ⟨ru, hru, _, hlen, _, _, hsub⟩ := val_parts hval
    have hfew : t.slots.length ≤ 8 := by
      obtain ⟨_, _, hgk, _⟩ := ruleAt_some hru
      rw [hlen]
      exact (hro.head ru (List.mem_of_getElem? hgk)).2.2
    have HSUB := Lib.hid hsub
    clear hru hlen hsub
    have hR : RowsB S (fun A c x => RH S nn w A c x) w AT cT t.slots := hR
    have hl1 := hR.bound
    obtain ⟨W, hW⟩ : ∃ W, W = (w.alloc (.cells (tcells t AT cT) 27)).alloc (.cells #[.int .i64 0, .string emptyS, .slice none 0 0] 27) := ⟨_, rfl⟩
    have hF : Fr [] w W := by rw [hW]; exact frx
    have hB1 : Blk W w.heap.size 27 (tcells t AT cT) := by rw [hW]; exact (Blk.new w _ _ _ rfl).alloc _
    have hB2 : Blk W (w.heap.size + 1) 27 #[.int .i64 0, .string emptyS, .slice none 0 0] := by rw [hW]; exact Blk.new _ _ _ _ (by simp)
    have hWz : Hid (W.heap.size = w.heap.size + 2) := by show _ = _; rw [hW]; simp
    have p0 : W.cell? ⟨w.heap.size, 0, none⟩ = some (.int .i64 t.kind) := hB1.cell 0 rfl
    have p1 : W.cell? ⟨w.heap.size, 1, none⟩ = some (.string t.text) := hB1.cell 1 rfl
    have p2 : W.cell? ⟨w.heap.size, 2, none⟩ = some (.slice AT t.slots.length cT) := hB1.cell 2 rfl
    have hZ : Blk (W.alloc (.cells #[.int .i64 0, .string emptyS, .slice none 0 0] 27)) W.heap.size 27 #[.int .i64 0, .string emptyS, .slice none 0 0] := Blk.new W _ _ _ rfl
    have HW := Lib.hid hW.symm
    clear hW
    go_enter Tryz.func86, Tryz.ntmps86
    go_wp2_with fail
    rw [HW.out]
    go_region_held3 (fun w' => w'.cell? ⟨w.heap.size, 0, none⟩ = some (.int .i64 t.kind) ∧ w'.cell? ⟨w.heap.size, 1, none⟩ = some (.string t.text) ∧ w'.cell? ⟨w.heap.size, 2, none⟩ = some (.slice AT t.slots.length cT))
      (first
        | with_reducible exact ⟨(fr_three hFa (.inr (Nat.le_refl _)) _ _ _).cell p0 (by simp), (fr_three hFa (.inr (Nat.le_refl _)) _ _ _).cell p1 (by simp), (fr_three hFa (.inr (Nat.le_refl _)) _ _ _).cell p2 (by simp)⟩
        | with_reducible exact ⟨hFa.cell p0 (by simp), hFa.cell p1 (by simp), hFa.cell p2 (by simp)⟩
        | with_reducible exact ⟨(hFa.alloc _).cell p0 (by simp), (hFa.alloc _).cell p1 (by simp), (hFa.alloc _).cell p2 (by simp)⟩
        | (go_keep; done))
      (first
        | (refine upon_makeN elemRows rfl t.slots.length (by omega) ?_; intro w4 hown4 hg4; have hFa : Fr [] W w4 := (Fr.grown frx hg4 (by simp)); have hza := hFa.size; (try (have hBz := Blk.grown (Blk.drew hZ) hg4 (by simp); have u0 := hBz.cell 0 rfl; have u1 := hBz.cell 1 rfl; have u2 := hBz.cell 2 rfl; have v0 := hBz.frozen 0; have v1 := hBz.frozen 1; have v2 := hBz.frozen 2))))
    all_goals
      have hwz := hWz.out
      first
        | (obtain ⟨W5, hW5⟩ : ∃ W5, W5 = ((w4.setCell ⟨W.heap.size, 0, none⟩ (.int .i64 t.kind)).setCell ⟨W.heap.size, 1, none⟩ (.string t.text)).setCell ⟨W.heap.size, 2, none⟩ (.slice (some ⟨W.heap.size + 1, 0, none⟩) t.slots.length t.slots.length) := ⟨_, rfl⟩
           rw [← hW5]
           have hF5 : Fr [] W W5 := by rw [hW5]; exact fr_three hFa (.inr (Nat.le_refl _)) _ _ _
           have hBo : Blk W5 W.heap.size 27 #[.int .i64 t.kind, .string t.text, .slice (some ⟨W.heap.size + 1, 0, none⟩) t.slots.length t.slots.length] := by rw [hW5]; exact hBz.three _ _ _
           have hzz : (W.alloc (.cells #[.int .i64 0, .string emptyS, .slice none 0 0] 27)).drew.heap.size = W.heap.size + 1 := by simp
           have hown4 : w4.ownsRow (W.heap.size + 1) 59 1 (.slice (some ⟨W.heap.size + 1, 0, none⟩) t.slots.length t.slots.length) t.slots.length (List.replicate t.slots.length (.slice none 0 0)) := by rw [← hzz]; exact hown4
           have hG5 : GR nn (W.heap.size + 1) W5 (some ⟨W.heap.size + 1, 0, none⟩) t.slots.length (mkRows t.slots.length []) := by
             rw [mkRows_nil, hW5]
             exact (GR.made hown4).fr (fr_three (S := [W.heap.size]) (Fr.refl _ _) (.inl (by simp)) _ _ _) (fun k hk => by have hk : k = W.heap.size := (by simpa using hk); omega)
           have hgb1 : w.heap.size + 2 ≤ W.heap.size + 1 := by omega
           have hob1 : w.heap.size + 2 ≤ W.heap.size := by omega
           have hgo : W.heap.size + 1 ≠ W.heap.size := by omega
           clear hW5 hown4 hg4 hZ hza hFa hwz hzz u0 u1 u2 v0 v1 v2 hBz
           generalize W.heap.size + 1 = gb at *
           generalize W.heap.size = ob at *)
        | (obtain ⟨W5, hW5⟩ : ∃ W5, W5 = w4.alloc (.cells #[.int .i64 t.kind, .string t.text, .slice (some ⟨W.heap.size, 0, none⟩) t.slots.length t.slots.length] 27) := ⟨_, rfl⟩
           rw [← hW5]
           have hF5 : Fr [] W W5 := by rw [hW5]; exact hFa.alloc _
           have hBo : Blk W5 w4.heap.size 27 #[.int .i64 t.kind, .string t.text, .slice (some ⟨W.heap.size, 0, none⟩) t.slots.length t.slots.length] := by rw [hW5]; exact Blk.new _ _ _ _ rfl
           have hG5 : GR nn W.heap.size W5 (some ⟨W.heap.size, 0, none⟩) t.slots.length (mkRows t.slots.length []) := by
             rw [mkRows_nil, hW5]
             exact (GR.made hown4).fr0 ((Fr.refl _ _).alloc _)
           have hgb1 : w.heap.size + 2 ≤ W.heap.size := by omega
           have hob1 : w.heap.size + 2 ≤ w4.heap.size := by omega
           have hgo : W.heap.size ≠ w4.heap.size := by have h : W.heap.size < w4.heap.size := (hown4.lt _ rfl).2; omega
           clear hW5 hown4 hg4 hZ hza hFa hwz
           generalize W.heap.size = gb at *
           generalize w4.heap.size = ob at *)
      have hFw := hF.trans hF5
      have hB15 := hB1.fr hF5 (by simp)
      have hB25 := hB2.fr hF5 (by simp)
      clear hB1 hB2 hF5 hF p0 p1 p2
      go_wp2_with fail
      go_loopw [4] (fun i wr => ∃ (k : Nat) (G : List RowH), k ≤ t.slots.length ∧ i = .int .i64 k ∧ Hid (G.map (·.1) = t.slots.take k) ∧ GR nn gb wr (some ⟨gb, 0, none⟩) t.slots.length (mkRows t.slots.length G) ∧ Blk wr w.heap.size 27 (tcells t AT cT) ∧
        Blk wr (w.heap.size + 1) 27 #[.int .i64 0, .string emptyS, .slice none 0 0] ∧ Blk wr ob 27 #[.int .i64 t.kind, .string t.text, .slice (some ⟨gb, 0, none⟩) t.slots.length t.slots.length] ∧ Fr [] w wr) (fun i _ => t.slots.length - (intOf i).toNat)
      case atStart => exact ⟨0, [], Nat.zero_le _, rfl, rfl, hG5, hB15, hB25, hBo, hFw⟩
      case round =>
        clear hG5 hB15 hB25 hBo hFw
        obtain ⟨k, G, hk, rfl, hGm, hGR, hB1, hB2, hBo, hf⟩ := hrel
        have hGl : Hid (G.length = k) := by
          show _ = _
          have := congrArg List.length hGm.out
          simpa [Nat.min_eq_left hk] using this
        have tb : wr.cell? ⟨w.heap.size, 2, none⟩ = some (.slice AT t.slots.length cT) := hB1.cell 2 rfl
        have o0 : wr.cell? ⟨ob, 0, none⟩ = some (.int .i64 t.kind) := hBo.cell 0 rfl
        have o1 : wr.cell? ⟨ob, 1, none⟩ = some (.string t.text) := hBo.cell 1 rfl
        have o2 : wr.cell? ⟨ob, 2, none⟩ = some (.slice (some ⟨gb, 0, none⟩) t.slots.length t.slots.length) := hBo.cell 2 rfl
        by_cases hlt : k < t.slots.length
        · obtain ⟨b4, off4, q, A6, c6, rfl, hq, hc, hRow, hlq⟩ := hR.at_ (i := k) hlt
          have hb4 : b4 < w.heap.size := World.block_lt_of_cell? w _ hc
          have hc := hf.cell hc (by simp)
          have hqn := row_few hq
          have HQ := Lib.hid (HSUB.out q (List.mem_of_getElem? hq.out))
          obtain ⟨V, rfl⟩ : ∃ V, V = wr := ⟨wr, rfl⟩
          have hgbl : Blk V gb 59 ((mkRows t.slots.length G).map encRow).toArray := hGR.blk (mkRows_len (by rw [hGl.out]; exact hk)) (by omega)
          have hgV : gb < V.heap.size := hgbl.lt
          have hml : ((mkRows t.slots.length G).map encRow).length = t.slots.length := by rw [List.length_map]; exact mkRows_len (by rw [hGl.out]; exact hk)
          have hb0 : Blk V gb 59 (((mkRows t.slots.length G).map encRow).set k (.slice none 0 0)).toArray := by
            rw [set_same (by rw [List.getElem?_map, ← hGl.out, mkRows_at (by rw [hGl.out]; exact hlt)]; rfl)]
            exact hgbl
          have ne1 : ¬ w.heap.size = gb := by omega
          have ne2 : ¬ ob = gb := fun h => hgo h.symm
          have ne3 : ¬ b4 = gb := by omega
          have hgo' := Lib.hid hgo
          have hml := Lib.hid hml
          clear hgo
          go_wp2_with fail
          go_loopw [5] (fun j wr => ∃ (m : Nat) (A9 : Option Addr) (c9 : Nat) (G2 : List TreeH), m ≤ q.length ∧ j = .int .i64 m ∧ Hid (G2.map (·.1) = q.take m) ∧ GT nn V.heap.size wr A9 c9 G2 ∧ Blk wr gb 59 (((mkRows t.slots.length G).map encRow).set k (.slice A9 G2.length c9)).toArray ∧ Fr [gb] V wr) (fun j _ => q.length - (intOf j).toNat)
          case atStart => exact ⟨0, none, 0, [], Nat.zero_le _, rfl, rfl, GT.nil_ _ _ _, hb0, Fr.refl _ _⟩
          case round =>
            obtain ⟨m, A9, c9, G2, hm', rfl, hG2m, hGT, hBg, hfm⟩ := hrel
            have hG2l : Hid (G2.length = m) := by
              show _ = _
              have := congrArg List.length hG2m.out
              simpa [Nat.min_eq_left hm'] using this
            have hzm := hfm.size
            have tbm := hfm.cell tb (by simp; exact ne1)
            have hcm := hfm.cell hc (by simp; exact ne3)
            by_cases hlt2 : m < q.length
            · obtain ⟨b6, off6, x, A8, c8, rfl, hx, f0, f1, f2, hX⟩ := hRow.at_ hlt2
              have hb6 : b6 < w.heap.size := World.block_lt_of_cell? w _ f0
              have ne4 : ¬ b6 = gb := by omega
              have f0 := hf.cell f0 (by simp)
              have f1 := hf.cell f1 (by simp)
              have f2 := hf.cell f2 (by simp)
              have hxn := nodes_row hq hx
              have hxv := Lib.hid (HQ.out x (List.mem_of_getElem? hx.out))
              have hfw : Fr [] w wr := hf.trans2 hfm fun j hj => .inr (by simp at hj; omega)
              have hbig : (G2.length + 1) * 48 ≤ 140737488355328 := by rw [hG2l.out]; omega
              have hnx : Hid (q.take (m + 1) = q.take m ++ [x]) := by show _ = _; rw [List.take_add_one, hx.out]; rfl
              have hgk : (((mkRows t.slots.length G).map encRow).set k (.slice A9 G2.length c9)).toArray[k]? = some (.slice A9 G2.length c9) := set_at (by rw [hml.out]; exact hlt)
              have hC0 := hfm.drew
              have g0 : wr.cell? ⟨gb, k, none⟩ = some (.slice A9 G2.length c9) := hBg.cell k hgk
              go_wp2_with fail
              refine wp_region_noPanic ?_
              refine wp_region_held_drew (S := (fun w' => w'.cell? ⟨w.heap.size, 2, none⟩ = some (.slice (some ⟨b4, off4, none⟩) t.slots.length cT) ∧ w'.cell? ⟨ob, 2, none⟩ = some (.slice (some ⟨gb, 0, none⟩) t.slots.length t.slots.length) ∧ w'.cell? ⟨b4, off4 + k, none⟩ = some (.slice (some ⟨b6, off6, none⟩) q.length c6) ∧ w'.cell? ⟨b6, off6 + m * 3, none⟩ = some (.int .i64 x.kind) ∧ w'.cell? ⟨b6, off6 + m * 3 + 1, none⟩ = some (.string x.text) ∧ w'.cell? ⟨b6, off6 + m * 3 + 2, none⟩ = some (.slice A8 x.slots.length c8))) (by kernel_rfl) ?_ (fun hHeld => ?_)
              · with_reducible exact ⟨(hC0).cell tb (by simp; exact ne1), (hC0).cell o2 (by simp; exact ne2), (hC0).cell hc (by simp; exact ne3), (hC0).cell f0 (by simp; exact ne4), (hC0).cell f1 (by simp; exact ne4), (hC0).cell f2 (by simp; exact ne4)⟩
              refine wpAnyH_take (i := 0) (v := ?_) rfl (by kernel_rfl) (by kernel_rfl) (by kernel_rfl) (fun _ _ _ h => h) (Or.inl ⟨by rfl, fun w hSw => ?_⟩) (by assumption) ?_
              rotate_left 1
              · (try dsimp only at hSw); go_simp; try with_reducible rfl
              try simp only [Act.put, List.setIfInBounds_toArray, List.set_cons_zero, List.set_cons_succ]
              refine wpAnyH_take (i := 1) (v := ?_) rfl (by kernel_rfl) (by kernel_rfl) (by kernel_rfl) (fun _ _ _ h => h) (Or.inl ⟨by rfl, fun w hSw => ?_⟩) (by assumption) ?_
              rotate_left 1
              · (try dsimp only at hSw); go_simp; try with_reducible rfl
              try simp only [Act.put, List.setIfInBounds_toArray, List.set_cons_zero, List.set_cons_succ]
              refine wpAnyH_take (i := 2) (v := ?_) rfl (by kernel_rfl) (by kernel_rfl) (by kernel_rfl) (fun _ _ _ h => h) (Or.inl ⟨by rfl, fun w hSw => ?_⟩) (by assumption) ?_
              rotate_left 1
              · (try dsimp only at hSw); go_simp; try with_reducible rfl
              try simp only [Act.put, List.setIfInBounds_toArray, List.set_cons_zero, List.set_cons_succ]
              refine wpAnyH_take (i := 3) (v := ?_) rfl (by kernel_rfl) (by kernel_rfl) (by kernel_rfl) (fun _ _ _ h => h) (Or.inl ⟨by rfl, fun w hSw => ?_⟩) (by assumption) ?_
              rotate_left 1
              · (try dsimp only at hSw); go_simp; try with_reducible rfl
              try simp only [Act.put, List.setIfInBounds_toArray, List.set_cons_zero, List.set_cons_succ]
              refine wpAnyH_take (i := 4) (v := ?_) rfl (by kernel_rfl) (by kernel_rfl) (by kernel_rfl) (fun _ _ _ h => h) (Or.inl ⟨by rfl, fun w hSw => ?_⟩) (by assumption) ?_
              rotate_left 1
              · (try dsimp only at hSw); go_simp; try with_reducible rfl
              try simp only [Act.put, List.setIfInBounds_toArray, List.set_cons_zero, List.set_cons_succ]
              refine wpAnyH_take (i := 5) (v := ?_) rfl (by kernel_rfl) (by kernel_rfl) (by kernel_rfl) (fun _ _ _ h => h) (Or.inl ⟨by rfl, fun w hSw => ?_⟩) (by assumption) ?_
              rotate_left 1
              · (try dsimp only at hSw); go_simp; try with_reducible rfl
              try simp only [Act.put, List.setIfInBounds_toArray, List.set_cons_zero, List.set_cons_succ]
              refine wpAnyH_take (i := 6) (v := ?_) rfl (by kernel_rfl) (by kernel_rfl) (by kernel_rfl) (fun _ _ _ h => h) (Or.inl ⟨by rfl, fun w hSw => ?_⟩) (by assumption) ?_
              rotate_left 1
              · (try dsimp only at hSw); go_simp; try with_reducible rfl
              try simp only [Act.put, List.setIfInBounds_toArray, List.set_cons_zero, List.set_cons_succ]
              refine wpAnyH_take (i := 8) (v := ?_) rfl (by kernel_rfl) (by kernel_rfl) (by kernel_rfl) (fun _ _ _ h => h) (Or.inl ⟨by rfl, fun w hSw => ?_⟩) (by assumption) ?_
              rotate_left 1
              · (try dsimp only at hSw); go_simp; try with_reducible rfl
              try simp only [Act.put, List.setIfInBounds_toArray, List.set_cons_zero, List.set_cons_succ]
              refine wpAnyH_take (i := 9) (v := ?_) rfl (by kernel_rfl) (by kernel_rfl) (by kernel_rfl) (fun _ _ _ h => h) (Or.inl ⟨by rfl, fun w hSw => ?_⟩) (by assumption) ?_
              rotate_left 1
              · (try dsimp only at hSw); go_simp; try with_reducible rfl
              try simp only [Act.put, List.setIfInBounds_toArray, List.set_cons_zero, List.set_cons_succ]
              refine wpAnyH_take (i := 10) (v := ?_) rfl (by kernel_rfl) (by kernel_rfl) (by kernel_rfl) (fun _ _ _ h => h) (Or.inl ⟨by rfl, fun w hSw => ?_⟩) (by assumption) ?_
              rotate_left 1
              · (try dsimp only at hSw); go_simp; try with_reducible rfl
              try simp only [Act.put, List.setIfInBounds_toArray, List.set_cons_zero, List.set_cons_succ]
              refine wpAnyH_take (i := 11) (v := ?_) rfl (by kernel_rfl) (by kernel_rfl) (by kernel_rfl) (fun _ _ _ h => h) (Or.inl ⟨by rfl, fun w hSw => ?_⟩) (by assumption) ?_
              rotate_left 1
              · (try dsimp only at hSw); go_simp; try with_reducible rfl
              try simp only [Act.put, List.setIfInBounds_toArray, List.set_cons_zero, List.set_cons_succ]
              refine wpAnyH_take (i := 12) (v := ?_) rfl (by kernel_rfl) (by kernel_rfl) (by kernel_rfl) (fun _ _ _ h => h) (Or.inl ⟨by rfl, fun w hSw => ?_⟩) (by assumption) ?_
              rotate_left 1
              · (try dsimp only at hSw); go_simp; try with_reducible rfl
              try simp only [Act.put, List.setIfInBounds_toArray, List.set_cons_zero, List.set_cons_succ]
              refine wpAnyH_take (i := 13) (v := ?_) rfl (by kernel_rfl) (by kernel_rfl) (by kernel_rfl) (fun _ _ _ h => h) (Or.inl ⟨by rfl, fun w hSw => ?_⟩) (by assumption) ?_
              rotate_left 1
              · (try dsimp only at hSw); go_simp; try with_reducible rfl
              try simp only [Act.put, List.setIfInBounds_toArray, List.set_cons_zero, List.set_cons_succ]
              refine wpAnyH_take (i := 14) (v := ?_) rfl (by kernel_rfl) (by kernel_rfl) (by kernel_rfl) (fun _ _ _ h => h) (Or.inl ⟨by rfl, fun w hSw => ?_⟩) (by assumption) ?_
              rotate_left 1
              · (try dsimp only at hSw); go_simp; try with_reducible rfl
              try simp only [Act.put, List.setIfInBounds_toArray, List.set_cons_zero, List.set_cons_succ]
              refine wpAnyH_take (i := 15) (v := ?_) rfl (by kernel_rfl) (by kernel_rfl) (by kernel_rfl) (fun _ _ _ h => h) (Or.inl ⟨by rfl, fun w hSw => ?_⟩) (by assumption) ?_
              rotate_left 1
              · (try dsimp only at hSw); go_simp; try with_reducible rfl
              try simp only [Act.put, List.setIfInBounds_toArray, List.set_cons_zero, List.set_cons_succ]
              refine wpAnyH_ready (rs := [7, 16]) (by kernel_rfl) (by simp) ?_
              refine AllReadyH.cons rfl (fun K hK => ?_) (AllReadyH.cons rfl (fun K hK => ?_) AllReadyH.nil)
              · go_simp
                refine hK.out _ _ (by with_reducible exact ⟨(hC0).cell tb (by simp; exact ne1), (hC0).cell o2 (by simp; exact ne2), (hC0).cell hc (by simp; exact ne3), (hC0).cell f0 (by simp; exact ne4), (hC0).cell f1 (by simp; exact ne4), (hC0).cell f2 (by simp; exact ne4)⟩) (fun hHeld2 => ?_)
                clear hK K hHeld
                have hHeld := hHeld2
                clear hHeld2
                try simp only [Act.put, List.setIfInBounds_toArray, List.set_cons_zero, List.set_cons_succ]
                refine wpAnyH_ready (rs := [16]) (by kernel_rfl) (by simp) ?_
                refine AllReadyH.cons rfl (fun K hK => ?_) AllReadyH.nil
                go_simp
                refine (ih x A8 c8 S _ (hX.fr0 (Fr.trans hfw frx)) hxv.out (by omega)).mono ?_
                rintro e wb ⟨A10, c10, rfl, hfb, hR10⟩
                have hfb : Fr [] wr wb := Fr.trans frx hfb
                have hC := hfm.trans (hfb.mono (T := [gb]) (by simp))
                have hGb := hBg.fr hfb (by simp)
                have g0 := hGb.cell k hgk
                have hGTb := hGT.fr0 hfb
                have hzb := hfb.size
                refine hK.out _ _ (by with_reducible exact ⟨(hC).cell tb (by simp; exact ne1), (hC).cell o2 (by simp; exact ne2), (hC).cell hc (by simp; exact ne3), (hC).cell f0 (by simp; exact ne4), (hC).cell f1 (by simp; exact ne4), (hC).cell f2 (by simp; exact ne4)⟩) (fun hHeld2 => ?_)
                clear hK K hHeld
                have hHeld := hHeld2
                clear hHeld2
                try simp only [Act.put, List.setIfInBounds_toArray, List.set_cons_zero, List.set_cons_succ]
                refine wpAnyH_ready (rs := [17]) (by kernel_rfl) (by simp) ?_
                refine AllReadyH.cons rfl (fun K hK => ?_) AllReadyH.nil
                go_simp
                have hC := hC.alloc (.cells #[.int .i64 x.kind, .string x.text, .slice A10 x.slots.length c10] 27)
                have g0 := (hGb.alloc (.cells #[.int .i64 x.kind, .string x.text, .slice A10 x.slots.length c10] 27)).cell k hgk
                refine hK.out _ _ (by with_reducible exact ⟨(hC).cell tb (by simp; exact ne1), (hC).cell o2 (by simp; exact ne2), (hC).cell hc (by simp; exact ne3), (hC).cell f0 (by simp; exact ne4), (hC).cell f1 (by simp; exact ne4), (hC).cell f2 (by simp; exact ne4)⟩) (fun hHeld2 => ?_)
                clear hK K hHeld
                have hHeld := hHeld2
                clear hHeld2
                try simp only [Act.put, List.setIfInBounds_toArray, List.set_cons_zero, List.set_cons_succ]
                refine wpAnyH_ready (rs := [18]) (by kernel_rfl) (by simp) ?_
                refine AllReadyH.cons rfl (fun K hK => ?_) AllReadyH.nil
                have hGa := hGTb.fr0 ((Fr.refl [] _).alloc (.cells #[.int .i64 x.kind, .string x.text, .slice A10 x.slots.length c10] 27))
                have hcl := Cells.lit (w := wb) (ty := 27) (ys := [.int .i64 x.kind, .string x.text, .slice A10 x.slots.length c10]) (g := wb.heap.size) rfl
                refine step_append_g rfl (.tmp 39) (.tmp 49) _ rfl elemTrees (.slice A9 G2.length c9) (G2.flatMap encT) rfl hGa.own (some ⟨wb.heap.size, 0, none⟩) 1 1 [.int .i64 x.kind, .string x.text, .slice A10 x.slots.length c10] rfl hcl rfl (Nat.le_refl _) (by simp; exact ⟨rfl, rfl, rfl⟩) hbig (by simp; omega) ?_
                intro A11 c11 w11 ho11 hg11 hat11
                have hC := Fr.app hC hGa.own (Nat.le_refl _) hg11
                have hGb1 := (hGb.alloc (.cells #[.int .i64 x.kind, .string x.text, .slice A10 x.slots.length c10] 27)).grown hg11 (hGT.ne hgV)
                have g0 := hGb1.cell k hgk
                have g1 := hGb1.frozen k
                refine hK.out _ _ (by with_reducible exact ⟨(hC).cell tb (by simp; exact ne1), (hC).cell o2 (by simp; exact ne2), (hC).cell hc (by simp; exact ne3), (hC).cell f0 (by simp; exact ne4), (hC).cell f1 (by simp; exact ne4), (hC).cell f2 (by simp; exact ne4)⟩) (fun hHeld2 => ?_)
                clear hK K hHeld
                have hHeld := hHeld2
                clear hHeld2
                try simp only [Act.put, List.setIfInBounds_toArray, List.set_cons_zero, List.set_cons_succ]
                refine wpAnyH_take (i := 19) (v := ?_) rfl (by kernel_rfl) (by kernel_rfl) (by kernel_rfl) (fun _ _ _ h => h) (Or.inl ⟨by rfl, fun w hSw => ?_⟩) (by assumption) ?_
                rotate_left 1
                · (try dsimp only at hSw); go_simp; try with_reducible rfl
                try simp only [Act.put, List.setIfInBounds_toArray, List.set_cons_zero, List.set_cons_succ]
                refine wpAnyH_ready (rs := [20]) (by kernel_rfl) (by simp) ?_
                refine AllReadyH.cons rfl (fun K hK => ?_) AllReadyH.nil
                go_simp
                have hC := hC.setCell (p := ⟨gb, k, none⟩) (.inl (by simp)) (.slice A11 (G2.length + 1) c11)
                refine hK.out _ _ (by with_reducible exact ⟨(hC).cell tb (by simp; exact ne1), (hC).cell o2 (by simp; exact ne2), (hC).cell hc (by simp; exact ne3), (hC).cell f0 (by simp; exact ne4), (hC).cell f1 (by simp; exact ne4), (hC).cell f2 (by simp; exact ne4)⟩) (fun hHeld2 => ?_)
                clear hK K hHeld
                have hHeld := hHeld2
                clear hHeld2
                try simp only [Act.put, List.setIfInBounds_toArray, List.set_cons_zero, List.set_cons_succ]
                refine wpAnyH_done (by kernel_rfl) ?_ _
                refine NoPanic.normal ?_
                have hGc := (hGa.app (G2 := [((x, A10, c10) : TreeH)]) (m := 1) (fun p hp => by
                  obtain rfl : p = ((x, A10, c10) : TreeH) := by simpa using hp
                  exact (RH.sub hR10 fun j _ hj => by have h := hGT.bad_lt (by omega) j hj; exact h).fr0 ((Fr.refl _ _).alloc _)) rfl rfl hg11 hat11 ho11).fr ((Fr.refl [gb] w11).setCell (p := ⟨gb, k, none⟩) (.inl (by simp)) (.slice A11 (G2.length + 1) c11)) (by simp; exact hgV)
                have hBn := hGb1.set_ k (.slice A11 (G2.length + 1) c11)
                go_wp2_with fail
                go_roundw
                case rel =>
                  refine ⟨m + 1, A11, c11, G2 ++ [((x, A10, c10) : TreeH)], by omega, by go_num, (show _ = _ by rw [List.map_append, hG2m.out, hnx.out]; rfl), hGc, ?_, hC⟩
                  rw [List.setIfInBounds_toArray, List.set_set] at hBn
                  rw [List.length_append]
                  exact hBn
                case measure => simp [intOf]; omega
              · go_simp
                refine (ih x A8 c8 S _ (hX.fr0 (Fr.trans hfw frx)) hxv.out (by omega)).mono ?_
                rintro e wb ⟨A10, c10, rfl, hfb, hR10⟩
                have hfb : Fr [] wr wb := Fr.trans frx hfb
                have hC := hfm.trans (hfb.mono (T := [gb]) (by simp))
                have hGb := hBg.fr hfb (by simp)
                have g0 := hGb.cell k hgk
                have hGTb := hGT.fr0 hfb
                have hzb := hfb.size
                refine hK.out _ _ (by with_reducible exact ⟨(hC).cell tb (by simp; exact ne1), (hC).cell o2 (by simp; exact ne2), (hC).cell hc (by simp; exact ne3), (hC).cell f0 (by simp; exact ne4), (hC).cell f1 (by simp; exact ne4), (hC).cell f2 (by simp; exact ne4)⟩) (fun hHeld2 => ?_)
                clear hK K hHeld
                have hHeld := hHeld2
                clear hHeld2
                try simp only [Act.put, List.setIfInBounds_toArray, List.set_cons_zero, List.set_cons_succ]
                refine wpAnyH_ready (rs := [7, 17]) (by kernel_rfl) (by simp) ?_
                refine AllReadyH.cons rfl (fun K hK => ?_) (AllReadyH.cons rfl (fun K hK => ?_) AllReadyH.nil)
                · go_simp
                  refine hK.out _ _ (by with_reducible exact ⟨(hC).cell tb (by simp; exact ne1), (hC).cell o2 (by simp; exact ne2), (hC).cell hc (by simp; exact ne3), (hC).cell f0 (by simp; exact ne4), (hC).cell f1 (by simp; exact ne4), (hC).cell f2 (by simp; exact ne4)⟩) (fun hHeld2 => ?_)
                  clear hK K hHeld
                  have hHeld := hHeld2
                  clear hHeld2
                  try simp only [Act.put, List.setIfInBounds_toArray, List.set_cons_zero, List.set_cons_succ]
                  refine wpAnyH_ready (rs := [17]) (by kernel_rfl) (by simp) ?_
                  refine AllReadyH.cons rfl (fun K hK => ?_) AllReadyH.nil
                  go_simp
                  have hC := hC.alloc (.cells #[.int .i64 x.kind, .string x.text, .slice A10 x.slots.length c10] 27)
                  have g0 := (hGb.alloc (.cells #[.int .i64 x.kind, .string x.text, .slice A10 x.slots.length c10] 27)).cell k hgk
                  refine hK.out _ _ (by with_reducible exact ⟨(hC).cell tb (by simp; exact ne1), (hC).cell o2 (by simp; exact ne2), (hC).cell hc (by simp; exact ne3), (hC).cell f0 (by simp; exact ne4), (hC).cell f1 (by simp; exact ne4), (hC).cell f2 (by simp; exact ne4)⟩) (fun hHeld2 => ?_)
                  clear hK K hHeld
                  have hHeld := hHeld2
                  clear hHeld2
                  try simp only [Act.put, List.setIfInBounds_toArray, List.set_cons_zero, List.set_cons_succ]
                  refine wpAnyH_ready (rs := [18]) (by kernel_rfl) (by simp) ?_
                  refine AllReadyH.cons rfl (fun K hK => ?_) AllReadyH.nil
                  have hGa := hGTb.fr0 ((Fr.refl [] _).alloc (.cells #[.int .i64 x.kind, .string x.text, .slice A10 x.slots.length c10] 27))
                  have hcl := Cells.lit (w := wb) (ty := 27) (ys := [.int .i64 x.kind, .string x.text, .slice A10 x.slots.length c10]) (g := wb.heap.size) rfl
                  refine step_append_g rfl (.tmp 39) (.tmp 49) _ rfl elemTrees (.slice A9 G2.length c9) (G2.flatMap encT) rfl hGa.own (some ⟨wb.heap.size, 0, none⟩) 1 1 [.int .i64 x.kind, .string x.text, .slice A10 x.slots.length c10] rfl hcl rfl (Nat.le_refl _) (by simp; exact ⟨rfl, rfl, rfl⟩) hbig (by simp; omega) ?_
                  intro A11 c11 w11 ho11 hg11 hat11
                  have hC := Fr.app hC hGa.own (Nat.le_refl _) hg11
                  have hGb1 := (hGb.alloc (.cells #[.int .i64 x.kind, .string x.text, .slice A10 x.slots.length c10] 27)).grown hg11 (hGT.ne hgV)
                  have g0 := hGb1.cell k hgk
                  have g1 := hGb1.frozen k
                  refine hK.out _ _ (by with_reducible exact ⟨(hC).cell tb (by simp; exact ne1), (hC).cell o2 (by simp; exact ne2), (hC).cell hc (by simp; exact ne3), (hC).cell f0 (by simp; exact ne4), (hC).cell f1 (by simp; exact ne4), (hC).cell f2 (by simp; exact ne4)⟩) (fun hHeld2 => ?_)
                  clear hK K hHeld
                  have hHeld := hHeld2
                  clear hHeld2
                  try simp only [Act.put, List.setIfInBounds_toArray, List.set_cons_zero, List.set_cons_succ]
                  refine wpAnyH_take (i := 19) (v := ?_) rfl (by kernel_rfl) (by kernel_rfl) (by kernel_rfl) (fun _ _ _ h => h) (Or.inl ⟨by rfl, fun w hSw => ?_⟩) (by assumption) ?_
                  rotate_left 1
                  · (try dsimp only at hSw); go_simp; try with_reducible rfl
                  try simp only [Act.put, List.setIfInBounds_toArray, List.set_cons_zero, List.set_cons_succ]
                  refine wpAnyH_ready (rs := [20]) (by kernel_rfl) (by simp) ?_
                  refine AllReadyH.cons rfl (fun K hK => ?_) AllReadyH.nil
                  go_simp
                  have hC := hC.setCell (p := ⟨gb, k, none⟩) (.inl (by simp)) (.slice A11 (G2.length + 1) c11)
                  refine hK.out _ _ (by with_reducible exact ⟨(hC).cell tb (by simp; exact ne1), (hC).cell o2 (by simp; exact ne2), (hC).cell hc (by simp; exact ne3), (hC).cell f0 (by simp; exact ne4), (hC).cell f1 (by simp; exact ne4), (hC).cell f2 (by simp; exact ne4)⟩) (fun hHeld2 => ?_)
                  clear hK K hHeld
                  have hHeld := hHeld2
                  clear hHeld2
                  try simp only [Act.put, List.setIfInBounds_toArray, List.set_cons_zero, List.set_cons_succ]
                  refine wpAnyH_done (by kernel_rfl) ?_ _
                  refine NoPanic.normal ?_
                  have hGc := (hGa.app (G2 := [((x, A10, c10) : TreeH)]) (m := 1) (fun p hp => by
                    obtain rfl : p = ((x, A10, c10) : TreeH) := by simpa using hp
                    exact (RH.sub hR10 fun j _ hj => by have h := hGT.bad_lt (by omega) j hj; exact h).fr0 ((Fr.refl _ _).alloc _)) rfl rfl hg11 hat11 ho11).fr ((Fr.refl [gb] w11).setCell (p := ⟨gb, k, none⟩) (.inl (by simp)) (.slice A11 (G2.length + 1) c11)) (by simp; exact hgV)
                  have hBn := hGb1.set_ k (.slice A11 (G2.length + 1) c11)
                  go_wp2_with fail
                  go_roundw
                  case rel =>
                    refine ⟨m + 1, A11, c11, G2 ++ [((x, A10, c10) : TreeH)], by omega, by go_num, (show _ = _ by rw [List.map_append, hG2m.out, hnx.out]; rfl), hGc, ?_, hC⟩
                    rw [List.setIfInBounds_toArray, List.set_set] at hBn
                    rw [List.length_append]
                    exact hBn
                  case measure => simp [intOf]; omega
                · go_simp
                  have hC := hC.alloc (.cells #[.int .i64 x.kind, .string x.text, .slice A10 x.slots.length c10] 27)
                  have g0 := (hGb.alloc (.cells #[.int .i64 x.kind, .string x.text, .slice A10 x.slots.length c10] 27)).cell k hgk
                  refine hK.out _ _ (by with_reducible exact ⟨(hC).cell tb (by simp; exact ne1), (hC).cell o2 (by simp; exact ne2), (hC).cell hc (by simp; exact ne3), (hC).cell f0 (by simp; exact ne4), (hC).cell f1 (by simp; exact ne4), (hC).cell f2 (by simp; exact ne4)⟩) (fun hHeld2 => ?_)
                  clear hK K hHeld
                  have hHeld := hHeld2
                  clear hHeld2
                  try simp only [Act.put, List.setIfInBounds_toArray, List.set_cons_zero, List.set_cons_succ]
                  refine wpAnyH_ready (rs := [7]) (by kernel_rfl) (by simp) ?_
                  refine AllReadyH.cons rfl (fun K hK => ?_) AllReadyH.nil
                  go_simp
                  refine hK.out _ _ (by with_reducible exact ⟨(hC).cell tb (by simp; exact ne1), (hC).cell o2 (by simp; exact ne2), (hC).cell hc (by simp; exact ne3), (hC).cell f0 (by simp; exact ne4), (hC).cell f1 (by simp; exact ne4), (hC).cell f2 (by simp; exact ne4)⟩) (fun hHeld2 => ?_)
                  clear hK K hHeld
                  have hHeld := hHeld2
                  clear hHeld2
                  try simp only [Act.put, List.setIfInBounds_toArray, List.set_cons_zero, List.set_cons_succ]
                  refine wpAnyH_ready (rs := [18]) (by kernel_rfl) (by simp) ?_
                  refine AllReadyH.cons rfl (fun K hK => ?_) AllReadyH.nil
                  have hGa := hGTb.fr0 ((Fr.refl [] _).alloc (.cells #[.int .i64 x.kind, .string x.text, .slice A10 x.slots.length c10] 27))
                  have hcl := Cells.lit (w := wb) (ty := 27) (ys := [.int .i64 x.kind, .string x.text, .slice A10 x.slots.length c10]) (g := wb.heap.size) rfl
                  refine step_append_g rfl (.tmp 39) (.tmp 49) _ rfl elemTrees (.slice A9 G2.length c9) (G2.flatMap encT) rfl hGa.own (some ⟨wb.heap.size, 0, none⟩) 1 1 [.int .i64 x.kind, .string x.text, .slice A10 x.slots.length c10] rfl hcl rfl (Nat.le_refl _) (by simp; exact ⟨rfl, rfl, rfl⟩) hbig (by simp; omega) ?_
                  intro A11 c11 w11 ho11 hg11 hat11
                  have hC := Fr.app hC hGa.own (Nat.le_refl _) hg11
                  have hGb1 := (hGb.alloc (.cells #[.int .i64 x.kind, .string x.text, .slice A10 x.slots.length c10] 27)).grown hg11 (hGT.ne hgV)
                  have g0 := hGb1.cell k hgk
                  have g1 := hGb1.frozen k
                  refine hK.out _ _ (by with_reducible exact ⟨(hC).cell tb (by simp; exact ne1), (hC).cell o2 (by simp; exact ne2), (hC).cell hc (by simp; exact ne3), (hC).cell f0 (by simp; exact ne4), (hC).cell f1 (by simp; exact ne4), (hC).cell f2 (by simp; exact ne4)⟩) (fun hHeld2 => ?_)
                  clear hK K hHeld
                  have hHeld := hHeld2
                  clear hHeld2
                  try simp only [Act.put, List.setIfInBounds_toArray, List.set_cons_zero, List.set_cons_succ]
                  refine wpAnyH_take (i := 19) (v := ?_) rfl (by kernel_rfl) (by kernel_rfl) (by kernel_rfl) (fun _ _ _ h => h) (Or.inl ⟨by rfl, fun w hSw => ?_⟩) (by assumption) ?_
                  rotate_left 1
                  · (try dsimp only at hSw); go_simp; try with_reducible rfl
                  try simp only [Act.put, List.setIfInBounds_toArray, List.set_cons_zero, List.set_cons_succ]
                  refine wpAnyH_ready (rs := [20]) (by kernel_rfl) (by simp) ?_
                  refine AllReadyH.cons rfl (fun K hK => ?_) AllReadyH.nil
                  go_simp
                  have hC := hC.setCell (p := ⟨gb, k, none⟩) (.inl (by simp)) (.slice A11 (G2.length + 1) c11)
                  refine hK.out _ _ (by with_reducible exact ⟨(hC).cell tb (by simp; exact ne1), (hC).cell o2 (by simp; exact ne2), (hC).cell hc (by simp; exact ne3), (hC).cell f0 (by simp; exact ne4), (hC).cell f1 (by simp; exact ne4), (hC).cell f2 (by simp; exact ne4)⟩) (fun hHeld2 => ?_)
                  clear hK K hHeld
                  have hHeld := hHeld2
                  clear hHeld2
                  try simp only [Act.put, List.setIfInBounds_toArray, List.set_cons_zero, List.set_cons_succ]
                  refine wpAnyH_done (by kernel_rfl) ?_ _
                  refine NoPanic.normal ?_
                  have hGc := (hGa.app (G2 := [((x, A10, c10) : TreeH)]) (m := 1) (fun p hp => by
                    obtain rfl : p = ((x, A10, c10) : TreeH) := by simpa using hp
                    exact (RH.sub hR10 fun j _ hj => by have h := hGT.bad_lt (by omega) j hj; exact h).fr0 ((Fr.refl _ _).alloc _)) rfl rfl hg11 hat11 ho11).fr ((Fr.refl [gb] w11).setCell (p := ⟨gb, k, none⟩) (.inl (by simp)) (.slice A11 (G2.length + 1) c11)) (by simp; exact hgV)
                  have hBn := hGb1.set_ k (.slice A11 (G2.length + 1) c11)
                  go_wp2_with fail
                  go_roundw
                  case rel =>
                    refine ⟨m + 1, A11, c11, G2 ++ [((x, A10, c10) : TreeH)], by omega, by go_num, (show _ = _ by rw [List.map_append, hG2m.out, hnx.out]; rfl), hGc, ?_, hC⟩
                    rw [List.setIfInBounds_toArray, List.set_set] at hBn
                    rw [List.length_append]
                    exact hBn
                  case measure => simp [intOf]; omega
            · obtain rfl : m = q.length := by omega
              rw [List.take_length] at hG2m
              have hRw : RowAt (Bad gb (some ⟨gb, 0, none⟩)) nn wr A9 c9 q := by
                have h1 := hGT.rowAt
                rw [hG2m.out] at h1
                exact h1.sub fun j _ hj => hGR.bad_lt (by omega) j hj
              have hGn := hGR.upd (i := k) (p := ((q, A9, c9) : RowH)) (mkRows_len (by rw [hGl.out]; exact hk)) hlt hfm (by have h := hBg; rw [hG2l.out] at h; exact h) hRw
              have hGs : (mkRows t.slots.length G).set k ((q, A9, c9) : RowH) = mkRows t.slots.length (G ++ [(q, A9, c9)]) := by
                have h := mkRows_set (n := t.slots.length) (G := G) (p := ((q, A9, c9) : RowH)) (by rw [hGl.out]; exact hlt)
                rw [hGl.out] at h
                exact h
              rw [hGs] at hGn
              have hnk : Hid (t.slots.take (k + 1) = t.slots.take k ++ [q]) := by show _ = _; rw [List.take_add_one, hq.out]; rfl
              have hFn : Fr [] w wr := hf.trans2 hfm fun j hj => .inr (by simp at hj; omega)
              go_wp2_with fail
              go_roundw
              case rel => exact ⟨k + 1, G ++ [((q, A9, c9) : RowH)], by omega, by go_num, (show _ = _ by rw [List.map_append, hGm.out, hnk.out]; rfl), hGn, hB1.fr hfm (by simp; exact ne1), hB2.fr hfm (by simp; omega), hBo.fr hfm (by simp; exact ne2), hFn⟩
              case measure => simp [intOf]; omega
        · obtain rfl : k = t.slots.length := by omega
          rw [List.take_length] at hGm
          rw [mkRows_all hGl.out] at hGR
          have hRB := hGR.rowsB
          rw [hGm.out] at hRB
          have hRH : RH (fun k => k < gb) (nn + 1) wr (some ⟨gb, 0, none⟩) t.slots.length t := hRB
          have u0 := hB2.cell 0 rfl
          have u1 := hB2.cell 1 rfl
          have u2 := hB2.cell 2 rfl
          have v0 := hB2.frozen 0
          have v1 := hB2.frozen 1
          have v2 := hB2.frozen 2
          go_wp2_with fail
          refine bodyPost_ret (results_tree rfl _ _ (w.heap.size + 1) rfl (hB2.three _ _ _)) rfl ?_
          refine ⟨_, _, rfl, fr_three hf (.inr (by omega)) _ _ _, ?_⟩
          exact (hRH.fr (fr_three (S := [w.heap.size + 1]) (Fr.refl _ _) (.inl (by simp)) _ _ _) (by simp; omega)).sub fun j _ hj => by have hj : j < w.heap.size := hj; show j < gb; omega
end

/- replaced of the reference. -/
section
open Go.RowKit
set_option maxRecDepth 20000 in
set_option maxHeartbeats 12800000 in
theorem replaced_any (g : List Ru) (hro : RulesOk g) (at_ : Int) (x : T) (XA : Option Addr) (cX mx : Nat) (Sx : Nat → Prop) (hxv : Val g x) (hxn : x.nodes ≤ 100000) (nn : Nat) : ∀ (t : T) (AT : Option Addr) (cT : Nat) (S : Nat → Prop) (n : Nat) (w : World), RH S nn w AT cT t → RH Sx mx w XA cX x → Val g t → n + t.nodes ≤ 100000 →
    Calls Tryz.prog 67 #[.agg (tcells t AT cT), .int .i64 (n : Nat), .int .i64 at_, .agg (tcells x XA cX)] w (RetTN (nn + mx) w (replT g at_ x t n) (n + t.nodes)) := by
  induction nn with
  | zero => intro t AT cT S n w h; exact absurd h id
  | succ nn ih =>
    intro t AT cT S n w hR hx hval hn
    have hxv := Lib.hid hxv
    obtain ⟨ru, hru, _, hlen, _, _, hsub⟩ := val_parts hval
    have hfew : t.slots.length ≤ 8 := by
      obtain ⟨_, _, hgk, _⟩ := ruleAt_some hru
      rw [hlen]
      exact (hro.head ru (List.mem_of_getElem? hgk)).2.2
    have HSUB := Lib.hid hsub
    clear hru hlen hsub
    have hRR := hR
    have hR : RowsB S (fun A c x => RH S nn w A c x) w AT cT t.slots := hR
    have hl1 := hR.bound
    obtain ⟨W, hW⟩ : ∃ W, W = ((w.alloc (.cells (tcells t AT cT) 27)).alloc (.cells (tcells x XA cX) 27)).alloc (.cells #[.int .i64 0, .string emptyS, .slice none 0 0] 27) := ⟨_, rfl⟩
    have hF : Fr [] w W := by rw [hW]; exact frx
    have hB1 : Blk W w.heap.size 27 (tcells t AT cT) := by rw [hW]; exact ((Blk.new w _ _ _ rfl).alloc _).alloc _
    have hBx : Blk W (w.heap.size + 1) 27 (tcells x XA cX) := by rw [hW]; exact (Blk.new _ _ _ _ (by simp)).alloc _
    have hB2 : Blk W (w.heap.size + 1 + 1) 27 #[.int .i64 0, .string emptyS, .slice none 0 0] := by rw [hW]; exact Blk.new _ _ _ _ (by simp)
    have hWz : Hid (W.heap.size = w.heap.size + 3) := by show _ = _; rw [hW]; simp
    have p0 : W.cell? ⟨w.heap.size, 0, none⟩ = some (.int .i64 t.kind) := hB1.cell 0 rfl
    have p1 : W.cell? ⟨w.heap.size, 1, none⟩ = some (.string t.text) := hB1.cell 1 rfl
    have p2 : W.cell? ⟨w.heap.size, 2, none⟩ = some (.slice AT t.slots.length cT) := hB1.cell 2 rfl
    have x0 : W.cell? ⟨w.heap.size + 1, 0, none⟩ = some (.int .i64 x.kind) := hBx.cell 0 rfl
    have x1 : W.cell? ⟨w.heap.size + 1, 1, none⟩ = some (.string x.text) := hBx.cell 1 rfl
    have x2 : W.cell? ⟨w.heap.size + 1, 2, none⟩ = some (.slice XA x.slots.length cX) := hBx.cell 2 rfl
    have hZ : Blk (W.alloc (.cells #[.int .i64 0, .string emptyS, .slice none 0 0] 27)) W.heap.size 27 #[.int .i64 0, .string emptyS, .slice none 0 0] := Blk.new W _ _ _ rfl
    have HW := Lib.hid hW.symm
    clear hW
    by_cases hat : (n : Int) = at_
    · subst hat
      have hE := Lib.hid (repl_at (g := g) (x := x) (t := t) (n := n) rfl)
      have hwr : IntKind.i64.wrap ((n : Int) + (t.nodes : Int)) = ((n + t.nodes : Nat) : Int) := by rw [IntWalk.i64_in _ (by omega)]; omega
      go_enter Tryz.func67, Tryz.ntmps67
      go_wp2_with fail
      rw [HW.out]
      go_region_held3 (fun w' => w'.cell? ⟨w.heap.size, 0, none⟩ = some (.int .i64 t.kind) ∧ w'.cell? ⟨w.heap.size, 1, none⟩ = some (.string t.text) ∧ w'.cell? ⟨w.heap.size, 2, none⟩ = some (.slice AT t.slots.length cT) ∧ w'.cell? ⟨w.heap.size + 1, 0, none⟩ = some (.int .i64 x.kind) ∧ w'.cell? ⟨w.heap.size + 1, 1, none⟩ = some (.string x.text) ∧ w'.cell? ⟨w.heap.size + 1, 2, none⟩ = some (.slice XA x.slots.length cX))
        (first
          | with_reducible exact ⟨(fr_three (S := [w.heap.size + 1 + 1]) (hFa.mono (by simp)) (.inl (by simp)) _ _ _).cell p0 (by simp; omega), (fr_three (S := [w.heap.size + 1 + 1]) (hFa.mono (by simp)) (.inl (by simp)) _ _ _).cell p1 (by simp; omega), (fr_three (S := [w.heap.size + 1 + 1]) (hFa.mono (by simp)) (.inl (by simp)) _ _ _).cell p2 (by simp; omega), (fr_three (S := [w.heap.size + 1 + 1]) (hFa.mono (by simp)) (.inl (by simp)) _ _ _).cell x0 (by simp), (fr_three (S := [w.heap.size + 1 + 1]) (hFa.mono (by simp)) (.inl (by simp)) _ _ _).cell x1 (by simp), (fr_three (S := [w.heap.size + 1 + 1]) (hFa.mono (by simp)) (.inl (by simp)) _ _ _).cell x2 (by simp)⟩
          | with_reducible exact ⟨hFa.cell p0 (by simp), hFa.cell p1 (by simp), hFa.cell p2 (by simp), hFa.cell x0 (by simp), hFa.cell x1 (by simp), hFa.cell x2 (by simp)⟩
          | (go_keep; done))
        (first
          | (go_at_call 86; refine (Own_any g hro mx x XA cX Sx _ (hx.fr0 (Fr.trans hF frx)) hxv.out hxn).mono ?_; rintro e wo ⟨A5, c5, rfl, hfo, hR5⟩; have hFa : Fr [] W wo := (Fr.trans frx hfo))
          | (go_at_call 7; refine (refNodes_any (nn + 1) t _ S _ ⟨AT, cT, rfl, hRR.fr0 (Fr.trans hF frx)⟩ (by omega)).mono ?_; rintro e wn ⟨rfl, hfn⟩; have hFa : Fr [] W wn := (Fr.trans frx hfn); have hfon : Fr [] wo wn := (Fr.trans frx hfn); have hB2 := hB2.fr hFa (by simp); have u0 := hB2.cell 0 rfl; have u1 := hB2.cell 1 rfl; have u2 := hB2.cell 2 rfl; have v0 := hB2.frozen 0; have v1 := hB2.frozen 1; have v2 := hB2.frozen 2))
      have hRn : RH (fun k => k < w.heap.size ∨ k = w.heap.size + 1 + 1) mx wn A5 c5 x := (hR5.sub (S' := fun k => k < w.heap.size ∨ k = w.heap.size + 1 + 1) fun k _ hk => by have hk : k < w.heap.size ∨ k = w.heap.size + 1 + 1 := hk; show k < W.heap.size; have := hWz.out; omega).fr0 hfon
      have hFw := hF.trans hFa
      go_wp2_with fail
      refine bodyPost_ret (results_tree2 rfl _ _ (w.heap.size + 1 + 1) rfl (hB2.three _ _ _)) rfl ?_
      rw [hE.out]
      exact ⟨A5, c5, rfl, fr_three hFw (.inr (by omega)) _ _ _, (RH_far hRn).mono (by omega)⟩
    · have hE := Lib.hid (repl_not (g := g) (x := x) hval hat)
      have hd : ((n : Int) == at_) = false := by simpa using hat
      have hat := Lib.hid hat
      have HLE := Lib.hid (fun i => rP_le (g := g) (at_ := at_) (x := x) t n i)
      have HLX := Lib.hid (fun i m q (hq : Hid (t.slots[i]? = some q)) => rX_le (g := g) (at_ := at_) (x := x) (n := n) (m := m) hq)
      go_enter Tryz.func67, Tryz.ntmps67
      go_wp2_with fail
      rw [HW.out]
      go_region_held3 (fun w' => w'.cell? ⟨w.heap.size, 0, none⟩ = some (.int .i64 t.kind) ∧ w'.cell? ⟨w.heap.size, 1, none⟩ = some (.string t.text) ∧ w'.cell? ⟨w.heap.size, 2, none⟩ = some (.slice AT t.slots.length cT))
        (first
          | with_reducible exact ⟨(fr_three hFa (.inr (Nat.le_refl _)) _ _ _).cell p0 (by simp), (fr_three hFa (.inr (Nat.le_refl _)) _ _ _).cell p1 (by simp), (fr_three hFa (.inr (Nat.le_refl _)) _ _ _).cell p2 (by simp)⟩
          | with_reducible exact ⟨hFa.cell p0 (by simp), hFa.cell p1 (by simp), hFa.cell p2 (by simp)⟩
          | with_reducible exact ⟨(hFa.alloc _).cell p0 (by simp), (hFa.alloc _).cell p1 (by simp), (hFa.alloc _).cell p2 (by simp)⟩
          | (go_keep; done))
        (first
          | (refine upon_makeN elemRows rfl t.slots.length (by omega) ?_; intro w4 hown4 hg4; have hFa : Fr [] W w4 := (Fr.grown frx hg4 (by simp)); have hza := hFa.size; (try (have hBz := Blk.grown (Blk.drew hZ) hg4 (by simp); have u0 := hBz.cell 0 rfl; have u1 := hBz.cell 1 rfl; have u2 := hBz.cell 2 rfl; have v0 := hBz.frozen 0; have v1 := hBz.frozen 1; have v2 := hBz.frozen 2))))
      all_goals
        have hwz := hWz.out
        first
          | (obtain ⟨W5, hW5⟩ : ∃ W5, W5 = ((w4.setCell ⟨W.heap.size, 0, none⟩ (.int .i64 t.kind)).setCell ⟨W.heap.size, 1, none⟩ (.string t.text)).setCell ⟨W.heap.size, 2, none⟩ (.slice (some ⟨W.heap.size + 1, 0, none⟩) t.slots.length t.slots.length) := ⟨_, rfl⟩
             rw [← hW5]
             have hF5 : Fr [] W W5 := by rw [hW5]; exact fr_three hFa (.inr (Nat.le_refl _)) _ _ _
             have hBo : Blk W5 W.heap.size 27 #[.int .i64 t.kind, .string t.text, .slice (some ⟨W.heap.size + 1, 0, none⟩) t.slots.length t.slots.length] := by rw [hW5]; exact hBz.three _ _ _
             have hzz : (W.alloc (.cells #[.int .i64 0, .string emptyS, .slice none 0 0] 27)).drew.heap.size = W.heap.size + 1 := by simp
             have hown4 : w4.ownsRow (W.heap.size + 1) 59 1 (.slice (some ⟨W.heap.size + 1, 0, none⟩) t.slots.length t.slots.length) t.slots.length (List.replicate t.slots.length (.slice none 0 0)) := by rw [← hzz]; exact hown4
             have hG5 : GR (nn + mx) (W.heap.size + 1) W5 (some ⟨W.heap.size + 1, 0, none⟩) t.slots.length (mkRows t.slots.length []) := by
               rw [mkRows_nil, hW5]
               exact (GR.made hown4).fr (fr_three (S := [W.heap.size]) (Fr.refl _ _) (.inl (by simp)) _ _ _) (fun k hk => by have hk : k = W.heap.size := (by simpa using hk); omega)
             have hgb1 : w.heap.size + 3 ≤ W.heap.size + 1 := by omega
             have hob1 : w.heap.size + 3 ≤ W.heap.size := by omega
             have hgo : W.heap.size + 1 ≠ W.heap.size := by omega
             clear hW5 hown4 hg4 hZ hza hFa hwz hzz u0 u1 u2 v0 v1 v2 hBz
             generalize W.heap.size + 1 = gb at *
             generalize W.heap.size = ob at *)
          | (obtain ⟨W5, hW5⟩ : ∃ W5, W5 = w4.alloc (.cells #[.int .i64 t.kind, .string t.text, .slice (some ⟨W.heap.size, 0, none⟩) t.slots.length t.slots.length] 27) := ⟨_, rfl⟩
             rw [← hW5]
             have hF5 : Fr [] W W5 := by rw [hW5]; exact hFa.alloc _
             have hBo : Blk W5 w4.heap.size 27 #[.int .i64 t.kind, .string t.text, .slice (some ⟨W.heap.size, 0, none⟩) t.slots.length t.slots.length] := by rw [hW5]; exact Blk.new _ _ _ _ rfl
             have hG5 : GR (nn + mx) W.heap.size W5 (some ⟨W.heap.size, 0, none⟩) t.slots.length (mkRows t.slots.length []) := by
               rw [mkRows_nil, hW5]
               exact (GR.made hown4).fr0 ((Fr.refl _ _).alloc _)
             have hgb1 : w.heap.size + 3 ≤ W.heap.size := by omega
             have hob1 : w.heap.size + 3 ≤ w4.heap.size := by omega
             have hgo : W.heap.size ≠ w4.heap.size := by have h : W.heap.size < w4.heap.size := (hown4.lt _ rfl).2; omega
             clear hW5 hown4 hg4 hZ hza hFa hwz
             generalize W.heap.size = gb at *
             generalize w4.heap.size = ob at *)
        have hFw := hF.trans hF5
        have hB15 := hB1.fr hF5 (by simp)
        have hBx5 := hBx.fr hF5 (by simp)
        have hB25 := hB2.fr hF5 (by simp)
        clear hB1 hB2 hBx hF5 hF p0 p1 p2 x0 x1 x2
        go_wp2_with fail
        go_loopw [11, 12] (fun v i wr => ∃ (k : Nat) (G : List RowH), k ≤ t.slots.length ∧ i = .int .i64 k ∧ v = .int .i64 ((((t.slots.take k).foldl (rP g at_ x) ([], n + 1)).2 : Nat) : Int) ∧ Hid (G.map (·.1) = ((t.slots.take k).foldl (rP g at_ x) ([], n + 1)).1) ∧ Hid (G.length = k) ∧ GR (nn + mx) gb wr (some ⟨gb, 0, none⟩) t.slots.length (mkRows t.slots.length G) ∧ Blk wr w.heap.size 27 (tcells t AT cT) ∧
          Blk wr (w.heap.size + 1) 27 (tcells x XA cX) ∧ Blk wr (w.heap.size + 1 + 1) 27 #[.int .i64 0, .string emptyS, .slice none 0 0] ∧ Blk wr ob 27 #[.int .i64 t.kind, .string t.text, .slice (some ⟨gb, 0, none⟩) t.slots.length t.slots.length] ∧ Fr [] w wr) (fun _ i _ => t.slots.length - (intOf i).toNat)
        case atStart => exact ⟨0, [], Nat.zero_le _, rfl, by go_num, rfl, rfl, hG5, hB15, hBx5, hB25, hBo, hFw⟩
        case round =>
          clear hG5 hB15 hB25 hBx5 hBo hFw
          obtain ⟨k, G, hk, rfl, rfl, hGm, hGl, hGR, hB1, hBx, hB2, hBo, hf⟩ := hrel
          have tb : wr.cell? ⟨w.heap.size, 2, none⟩ = some (.slice AT t.slots.length cT) := hB1.cell 2 rfl
          have xb0 : wr.cell? ⟨w.heap.size + 1, 0, none⟩ = some (.int .i64 x.kind) := hBx.cell 0 rfl
          have xb1 : wr.cell? ⟨w.heap.size + 1, 1, none⟩ = some (.string x.text) := hBx.cell 1 rfl
          have xb2 : wr.cell? ⟨w.heap.size + 1, 2, none⟩ = some (.slice XA x.slots.length cX) := hBx.cell 2 rfl
          have o0 : wr.cell? ⟨ob, 0, none⟩ = some (.int .i64 t.kind) := hBo.cell 0 rfl
          have o1 : wr.cell? ⟨ob, 1, none⟩ = some (.string t.text) := hBo.cell 1 rfl
          have o2 : wr.cell? ⟨ob, 2, none⟩ = some (.slice (some ⟨gb, 0, none⟩) t.slots.length t.slots.length) := hBo.cell 2 rfl
          have hk1 := HLE.out k
          by_cases hlt : k < t.slots.length
          · obtain ⟨b4, off4, q, A6, c6, rfl, hq, hc, hRow, hlq⟩ := hR.at_ (i := k) hlt
            have hb4 : b4 < w.heap.size := World.block_lt_of_cell? w _ hc
            have hc := hf.cell hc (by simp)
            have hqn := row_few hq
            have HQ := Lib.hid (HSUB.out q (List.mem_of_getElem? hq.out))
            have HM := Lib.hid (fun m => HLX.out k m q hq)
            have hnk : Hid ((t.slots.take (k + 1)).foldl (rP g at_ x) ([], n + 1) = rP g at_ x ((t.slots.take k).foldl (rP g at_ x) ([], n + 1)) q) := by show _ = _; rw [List.take_add_one, hq.out, List.foldl_append]; rfl
            generalize (t.slots.take k).foldl (rP g at_ x) ([], n + 1) = st at *
            obtain ⟨V, rfl⟩ : ∃ V, V = wr := ⟨wr, rfl⟩
            have hgbl : Blk V gb 59 ((mkRows t.slots.length G).map encRow).toArray := hGR.blk (mkRows_len (by rw [hGl.out]; exact hk)) (by omega)
            have hgV : gb < V.heap.size := hgbl.lt
            have hoV : ob < V.heap.size := hBo.lt
            have hml : ((mkRows t.slots.length G).map encRow).length = t.slots.length := by rw [List.length_map]; exact mkRows_len (by rw [hGl.out]; exact hk)
            have hb0 : Blk V gb 59 (((mkRows t.slots.length G).map encRow).set k (.slice none 0 0)).toArray := by
              rw [set_same (by rw [List.getElem?_map, ← hGl.out, mkRows_at (by rw [hGl.out]; exact hlt)]; rfl)]
              exact hgbl
            have ne1 : ¬ w.heap.size = gb := by omega
            have nex : ¬ w.heap.size + 1 = gb := by omega
            have ne2 : ¬ ob = gb := fun h => hgo h.symm
            have ne3 : ¬ b4 = gb := by omega
            have hgo' := Lib.hid hgo
            have hml := Lib.hid hml
            clear hgo
            go_wp2_with fail
            go_loopw [11, 13] (fun v j wr => ∃ (m : Nat) (A9 : Option Addr) (c9 : Nat) (G2 : List TreeH), m ≤ q.length ∧ j = .int .i64 m ∧ v = .int .i64 ((((q.take m).foldl (rX g at_ x) ([], st.2)).2 : Nat) : Int) ∧ Hid (G2.map (·.1) = ((q.take m).foldl (rX g at_ x) ([], st.2)).1) ∧ Hid (G2.length = m) ∧ GT (nn + mx) V.heap.size wr A9 c9 G2 ∧ Blk wr gb 59 (((mkRows t.slots.length G).map encRow).set k (.slice A9 G2.length c9)).toArray ∧ Fr [gb] V wr) (fun _ j _ => q.length - (intOf j).toNat)
            case atStart => exact ⟨0, none, 0, [], Nat.zero_le _, rfl, rfl, rfl, rfl, GT.nil_ _ _ _, hb0, Fr.refl _ _⟩
            case round =>
              obtain ⟨m, A9, c9, G2, hm', rfl, rfl, hG2m, hG2l, hGT, hBg, hfm⟩ := hrel
              have hzm := hfm.size
              have tbm := hfm.cell tb (by simp; exact ne1)
              have hcm := hfm.cell hc (by simp; exact ne3)
              have hfw : Fr [] w wr := hf.trans2 hfm fun j hj => .inr (by simp at hj; omega)
              by_cases hlt2 : m < q.length
              · obtain ⟨b6, off6, y, A8, c8, rfl, hy, f0, f1, f2, hX⟩ := hRow.at_ hlt2
                have f0 := hfw.cell f0 (by simp)
                have f1 := hfw.cell f1 (by simp)
                have f2 := hfw.cell f2 (by simp)
                have xm0 := hfm.cell xb0 (by simp; exact nex)
                have xm1 := hfm.cell xb1 (by simp; exact nex)
                have xm2 := hfm.cell xb2 (by simp; exact nex)
                have hyv := Lib.hid (HQ.out y (List.mem_of_getElem? hy.out))
                have hnx : Hid ((q.take (m + 1)).foldl (rX g at_ x) ([], st.2) = rX g at_ x ((q.take m).foldl (rX g at_ x) ([], st.2)) y) := by show _ = _; rw [List.take_add_one, hy.out, List.foldl_append]; rfl
                have hb1 := HM.out (m + 1)
                rw [hnx.out] at hb1
                have hbig : (G2.length + 1) * 48 ≤ 140737488355328 := by rw [hG2l.out]; omega
                generalize (q.take m).foldl (rX g at_ x) ([], st.2) = st3 at *
                obtain ⟨Y, hY⟩ : ∃ Y, replT g at_ x y st3.2 = Y := ⟨_, rfl⟩
                have hb1 : st3.2 + y.nodes ≤ n + t.nodes := hb1
                have hb2 : st3.2 + y.nodes ≤ 100000 := by omega
                have hrx : Hid (rX g at_ x st3 y = (st3.1 ++ [Y], st3.2 + y.nodes)) := by show _ = _; rw [← hY]; rfl
                have HY := Lib.hid hY
                clear hY
                have hgk : (((mkRows t.slots.length G).map encRow).set k (.slice A9 G2.length c9)).toArray[k]? = some (.slice A9 G2.length c9) := set_at (by rw [hml.out]; exact hlt)
                go_wp2_with fail
                go_region_held3 (fun w' => w'.cell? ⟨w.heap.size, 2, none⟩ = some (.slice (some ⟨b4, off4, none⟩) t.slots.length cT) ∧ w'.cell? ⟨b4, off4 + k, none⟩ = some (.slice (some ⟨b6, off6, none⟩) q.length c6) ∧ w'.cell? ⟨b6, off6 + m * 3, none⟩ = some (.int .i64 y.kind) ∧ w'.cell? ⟨b6, off6 + m * 3 + 1, none⟩ = some (.string y.text) ∧ w'.cell? ⟨b6, off6 + m * 3 + 2, none⟩ = some (.slice A8 y.slots.length c8) ∧
                    w'.cell? ⟨w.heap.size + 1, 0, none⟩ = some (.int .i64 x.kind) ∧ w'.cell? ⟨w.heap.size + 1, 1, none⟩ = some (.string x.text) ∧ w'.cell? ⟨w.heap.size + 1, 2, none⟩ = some (.slice XA x.slots.length cX))
                  (first
                    | with_reducible exact ⟨(fr_three hFa (.inr (Nat.le_refl _)) _ _ _).cell tbm (by simp), (fr_three hFa (.inr (Nat.le_refl _)) _ _ _).cell hcm (by simp), (fr_three hFa (.inr (Nat.le_refl _)) _ _ _).cell f0 (by simp), (fr_three hFa (.inr (Nat.le_refl _)) _ _ _).cell f1 (by simp), (fr_three hFa (.inr (Nat.le_refl _)) _ _ _).cell f2 (by simp), (fr_three hFa (.inr (Nat.le_refl _)) _ _ _).cell xm0 (by simp), (fr_three hFa (.inr (Nat.le_refl _)) _ _ _).cell xm1 (by simp), (fr_three hFa (.inr (Nat.le_refl _)) _ _ _).cell xm2 (by simp)⟩
                    | with_reducible exact ⟨(hFa.alloc _).cell tbm (by simp), (hFa.alloc _).cell hcm (by simp), (hFa.alloc _).cell f0 (by simp), (hFa.alloc _).cell f1 (by simp), (hFa.alloc _).cell f2 (by simp), (hFa.alloc _).cell xm0 (by simp), (hFa.alloc _).cell xm1 (by simp), (hFa.alloc _).cell xm2 (by simp)⟩
                    | with_reducible exact ⟨(hFa).cell tbm (by simp), (hFa).cell hcm (by simp), (hFa).cell f0 (by simp), (hFa).cell f1 (by simp), (hFa).cell f2 (by simp), (hFa).cell xm0 (by simp), (hFa).cell xm1 (by simp), (hFa).cell xm2 (by simp)⟩
                    | with_reducible exact ⟨(((Fr.refl [] wr).alloc _).drew).cell tbm (by simp), (((Fr.refl [] wr).alloc _).drew).cell hcm (by simp), (((Fr.refl [] wr).alloc _).drew).cell f0 (by simp), (((Fr.refl [] wr).alloc _).drew).cell f1 (by simp), (((Fr.refl [] wr).alloc _).drew).cell f2 (by simp), (((Fr.refl [] wr).alloc _).drew).cell xm0 (by simp), (((Fr.refl [] wr).alloc _).drew).cell xm1 (by simp), (((Fr.refl [] wr).alloc _).drew).cell xm2 (by simp)⟩
                    | with_reducible exact ⟨((Fr.refl [] wr).drew).cell tbm (by simp), ((Fr.refl [] wr).drew).cell hcm (by simp), ((Fr.refl [] wr).drew).cell f0 (by simp), ((Fr.refl [] wr).drew).cell f1 (by simp), ((Fr.refl [] wr).drew).cell f2 (by simp), ((Fr.refl [] wr).drew).cell xm0 (by simp), ((Fr.refl [] wr).drew).cell xm1 (by simp), ((Fr.refl [] wr).drew).cell xm2 (by simp)⟩
                    | (go_keep; done))
                  (first
                    | (go_at_call 67; refine (calls_zd (V := wr) ?_ (fun e w' ⟨_, _, _, hf, _⟩ => hf) (ih y A8 c8 S st3.2 _ (hX.fr0 (Fr.trans hfw frx)) (hx.fr0 (Fr.trans hfw frx)) hyv.out hb2)).mono ?_; (focus ((repeat (first | exact Fr.refl _ _ | apply Fr.drewN | apply Fr.drew | apply Fr.alloc)); done)); rw [HY.out]; rintro e wb ⟨⟨A10, c10, rfl, hfb, hR10⟩, hBz⟩; have hFa : Fr [] wr wb := (Fr.trans frx hfb); have hza := hFa.size; have hz1 : wr.heap.size < wb.heap.size := hBz.lt; have u0 := hBz.cell 0 rfl; have u1 := hBz.cell 1 rfl; have u2 := hBz.cell 2 rfl; have v0 := hBz.frozen 0; have v1 := hBz.frozen 1; have v2 := hBz.frozen 2)
                    | (go_at_call 67; refine (ih y A8 c8 S st3.2 _ (hX.fr0 (Fr.trans hfw frx)) (hx.fr0 (Fr.trans hfw frx)) hyv.out hb2).mono ?_; rw [HY.out]; rintro e wb ⟨A10, c10, rfl, hfb, hR10⟩; have hFa : Fr [] wr wb := (Fr.trans frx hfb); have hza := hFa.size))
                all_goals
                  first
                    | (obtain ⟨W2, hW2⟩ : ∃ W2, W2 = wb.alloc (.cells #[.int .i64 Y.kind, .string Y.text, .slice A10 Y.slots.length c10] 27) := ⟨_, rfl⟩
                       rw [← hW2]
                       have hf2 : Fr [] wr W2 := by rw [hW2]; exact hFa.alloc _
                       have hBy : Blk W2 wb.heap.size 27 #[.int .i64 Y.kind, .string Y.text, .slice A10 Y.slots.length c10] := by rw [hW2]; exact Blk.new _ _ _ _ rfl
                       have hRY : RH (fun k => k < wr.heap.size) (nn + mx) W2 A10 c10 Y := by
                         rw [hW2]
                         exact (hR10.sub (S' := fun k => k < wr.heap.size) fun k _ hk => hk).fr0 ((Fr.refl _ _).alloc _)
                       have hyb : wr.heap.size ≤ wb.heap.size := hza
                       clear hW2 hFa hR10 hfb hza
                       generalize wb.heap.size = yb at *)
                    | (obtain ⟨W2, hW2⟩ : ∃ W2, W2 = ((wb.setCell ⟨wr.heap.size, 0, none⟩ (.int .i64 Y.kind)).setCell ⟨wr.heap.size, 1, none⟩ (.string Y.text)).setCell ⟨wr.heap.size, 2, none⟩ (.slice A10 Y.slots.length c10) := ⟨_, rfl⟩
                       rw [← hW2]
                       have hf2 : Fr [] wr W2 := by rw [hW2]; exact fr_three hFa (.inr (Nat.le_refl _)) _ _ _
                       have hBy : Blk W2 wr.heap.size 27 #[.int .i64 Y.kind, .string Y.text, .slice A10 Y.slots.length c10] := by rw [hW2]; exact hBz.three _ _ _
                       have hRY : RH (fun k => k < wr.heap.size) (nn + mx) W2 A10 c10 Y := by
                         rw [hW2]
                         have h1 : RH (fun k => k < wr.heap.size ∨ k = wr.heap.size) (nn + mx) wb A10 c10 Y := hR10.sub fun k _ hk => by
                           have hk : k < wr.heap.size ∨ k = wr.heap.size := hk
                           show k < ((wr.alloc _).drew).heap.size
                           have e : (wr.alloc (.cells #[.int .i64 0, .string emptyS, .slice none 0 0] 27)).drew.heap.size = wr.heap.size + 1 := by simp
                           rw [e]
                           omega
                         exact (h1.fr (Z := [wr.heap.size]) (fr_three (Fr.refl _ _) (.inl (by simp)) _ _ _) (by simp)).sub fun k _ hk => .inl hk
                       obtain ⟨yb, hyb1⟩ : ∃ yb, yb = wr.heap.size := ⟨_, rfl⟩
                       have hyb : wr.heap.size ≤ yb := by omega
                       rw [← hyb1] at hBy ⊢
                       clear hyb1 hW2 hFa hR10 hfb hza hBz hz1 u0 u1 u2 v0 v1 v2)
                  have hV2 : Fr [gb] V W2 := hfm.trans (hf2.mono (by simp))
                  have hGT2 := hGT.fr0 hf2
                  have hG2 := hBg.fr hf2 (by simp)
                  have hz2 := hf2.size
                  have hzs : Hid (gb < V.heap.size ∧ ob < V.heap.size) := ⟨hgV, hoV⟩
                  obtain ⟨Zs, hZs⟩ : ∃ Zs, Zs = gb :: (Value.slice A9 G2.length c9).ownBlock.toList := ⟨_, rfl⟩
                  have hown9 : ∀ j, (Value.slice A9 G2.length c9).ownBlock = some j → V.heap.size ≤ j ∧ j < wr.heap.size := fun j hj => by
                    rcases A9 with _ | a
                    · cases hj
                    · have h := own_block hGT.own rfl
                      have hj : a.block = j := by simpa [Value.ownBlock] using hj
                      omega
                  have hno : ob ∉ Zs := fun h => by
                    rw [hZs] at h
                    rcases List.mem_cons.1 h with h | h
                    · exact ne2 h
                    · have := hown9 ob (by simpa using h)
                      omega
                  have hny : yb ∉ Zs := fun h => by
                    rw [hZs] at h
                    rcases List.mem_cons.1 h with h | h
                    · omega
                    · have := hown9 yb (by simpa using h)
                      omega
                  have hrow : ∀ j, (Value.slice A9 G2.length c9).ownBlock = some j → j ∈ Zs ∨ W2.heap.size ≤ j := fun j hj => .inl (by rw [hZs]; simp [hj])
                  have hgz : gb ∈ Zs := by rw [hZs]; simp
                  have o22 : W2.cell? ⟨ob, 2, none⟩ = some (.slice (some ⟨gb, 0, none⟩) t.slots.length t.slots.length) := hV2.cell o2 (by simp; exact ne2)
                  have y0 : W2.cell? ⟨yb, 0, none⟩ = some (.int .i64 Y.kind) := hBy.cell 0 rfl
                  have y1 : W2.cell? ⟨yb, 1, none⟩ = some (.string Y.text) := hBy.cell 1 rfl
                  have y2 : W2.cell? ⟨yb, 2, none⟩ = some (.slice A10 Y.slots.length c10) := hBy.cell 2 rfl
                  have g0 : W2.cell? ⟨gb, k, none⟩ = some (.slice A9 G2.length c9) := hG2.cell k hgk
                  have hCW := Fr.refl Zs W2
                  have hC0 := hCW.drew
                  have hown9 := Lib.hid hown9
                  have hrow := hrow
                  clear hZs
                  go_wp2_with fail
                  refine wp_region_noPanic ?_
                  refine wp_region_held_drew (S := (fun w' => w'.cell? ⟨ob, 2, none⟩ = some (.slice (some ⟨gb, 0, none⟩) t.slots.length t.slots.length) ∧ w'.cell? ⟨yb, 0, none⟩ = some (.int .i64 Y.kind) ∧ w'.cell? ⟨yb, 1, none⟩ = some (.string Y.text) ∧ w'.cell? ⟨yb, 2, none⟩ = some (.slice A10 Y.slots.length c10))) (by kernel_rfl) ?_ (fun hHeld => ?_)
                  · with_reducible exact ⟨(hC0).cell o22 hno, (hC0).cell y0 hny, (hC0).cell y1 hny, (hC0).cell y2 hny⟩
                  refine wpAnyH_take (i := 0) (v := ?_) rfl (by kernel_rfl) (by kernel_rfl) (by kernel_rfl) (fun _ _ _ h => h) (Or.inl ⟨by rfl, fun w hSw => ?_⟩) (by assumption) ?_
                  rotate_left 1
                  · (try dsimp only at hSw); go_simp; try with_reducible rfl
                  try simp only [Act.put, List.setIfInBounds_toArray, List.set_cons_zero, List.set_cons_succ]
                  refine wpAnyH_take (i := 1) (v := ?_) rfl (by kernel_rfl) (by kernel_rfl) (by kernel_rfl) (fun _ _ _ h => h) (Or.inl ⟨by rfl, fun w hSw => ?_⟩) (by assumption) ?_
                  rotate_left 1
                  · (try dsimp only at hSw); go_simp; try with_reducible rfl
                  try simp only [Act.put, List.setIfInBounds_toArray, List.set_cons_zero, List.set_cons_succ]
                  refine wpAnyH_take (i := 2) (v := ?_) rfl (by kernel_rfl) (by kernel_rfl) (by kernel_rfl) (fun _ _ _ h => h) (Or.inl ⟨by rfl, fun w hSw => ?_⟩) (by assumption) ?_
                  rotate_left 1
                  · (try dsimp only at hSw); go_simp; try with_reducible rfl
                  try simp only [Act.put, List.setIfInBounds_toArray, List.set_cons_zero, List.set_cons_succ]
                  refine wpAnyH_take (i := 3) (v := ?_) rfl (by kernel_rfl) (by kernel_rfl) (by kernel_rfl) (fun _ _ _ h => h) (Or.inl ⟨by rfl, fun w hSw => ?_⟩) (by assumption) ?_
                  rotate_left 1
                  · (try dsimp only at hSw); go_simp; try with_reducible rfl
                  try simp only [Act.put, List.setIfInBounds_toArray, List.set_cons_zero, List.set_cons_succ]
                  refine wpAnyH_take (i := 4) (v := ?_) rfl (by kernel_rfl) (by kernel_rfl) (by kernel_rfl) (fun _ _ _ h => h) (Or.inl ⟨by rfl, fun w hSw => ?_⟩) (by assumption) ?_
                  rotate_left 1
                  · (try dsimp only at hSw); go_simp; try with_reducible rfl
                  try simp only [Act.put, List.setIfInBounds_toArray, List.set_cons_zero, List.set_cons_succ]
                  refine wpAnyH_take (i := 5) (v := ?_) rfl (by kernel_rfl) (by kernel_rfl) (by kernel_rfl) (fun _ _ _ h => h) (Or.inl ⟨by rfl, fun w hSw => ?_⟩) (by assumption) ?_
                  rotate_left 1
                  · (try dsimp only at hSw); go_simp; try with_reducible rfl
                  try simp only [Act.put, List.setIfInBounds_toArray, List.set_cons_zero, List.set_cons_succ]
                  refine wpAnyH_take (i := 6) (v := ?_) rfl (by kernel_rfl) (by kernel_rfl) (by kernel_rfl) (fun _ _ _ h => h) (Or.inl ⟨by rfl, fun w hSw => ?_⟩) (by assumption) ?_
                  rotate_left 1
                  · (try dsimp only at hSw); go_simp; try with_reducible rfl
                  try simp only [Act.put, List.setIfInBounds_toArray, List.set_cons_zero, List.set_cons_succ]
                  refine wpAnyH_take (i := 8) (v := ?_) rfl (by kernel_rfl) (by kernel_rfl) (by kernel_rfl) (fun _ _ _ h => h) (Or.inl ⟨by rfl, fun w hSw => ?_⟩) (by assumption) ?_
                  rotate_left 1
                  · (try dsimp only at hSw); go_simp; try with_reducible rfl
                  try simp only [Act.put, List.setIfInBounds_toArray, List.set_cons_zero, List.set_cons_succ]
                  refine wpAnyH_ready (rs := [7, 9]) (by kernel_rfl) (by simp) ?_
                  refine AllReadyH.cons rfl (fun K hK => ?_) (AllReadyH.cons rfl (fun K hK => ?_) AllReadyH.nil)
                  · go_simp
                    refine hK.out _ _ (by with_reducible exact ⟨(hC0).cell o22 hno, (hC0).cell y0 hny, (hC0).cell y1 hny, (hC0).cell y2 hny⟩) (fun hHeld2 => ?_)
                    clear hK K hHeld
                    have hHeld := hHeld2
                    clear hHeld2
                    try simp only [Act.put, List.setIfInBounds_toArray, List.set_cons_zero, List.set_cons_succ]
                    refine wpAnyH_ready (rs := [9]) (by kernel_rfl) (by simp) ?_
                    refine AllReadyH.cons rfl (fun K hK => ?_) AllReadyH.nil
                    go_simp
                    have hC := (hCW.alloc (.cells #[.int .i64 Y.kind, .string Y.text, .slice A10 Y.slots.length c10] 27)).drew
                    have g0 : (W2.alloc (.cells #[.int .i64 Y.kind, .string Y.text, .slice A10 Y.slots.length c10] 27)).cell? ⟨gb, k, none⟩ = some (.slice A9 G2.length c9) := (hG2.alloc _).cell k hgk
                    refine hK.out _ _ (by with_reducible exact ⟨(hC).cell o22 hno, (hC).cell y0 hny, (hC).cell y1 hny, (hC).cell y2 hny⟩) (fun hHeld2 => ?_)
                    clear hK K hHeld
                    have hHeld := hHeld2
                    clear hHeld2
                    try simp only [Act.put, List.setIfInBounds_toArray, List.set_cons_zero, List.set_cons_succ]
                    refine wpAnyH_ready (rs := [10]) (by kernel_rfl) (by simp) ?_
                    refine AllReadyH.cons rfl (fun K hK => ?_) AllReadyH.nil
                    have hGa := hGT2.fr0 (((Fr.refl [] _).alloc (.cells #[.int .i64 Y.kind, .string Y.text, .slice A10 Y.slots.length c10] 27)).drew)
                    have hcl : Cells ((W2.alloc (.cells #[.int .i64 Y.kind, .string Y.text, .slice A10 Y.slots.length c10] 27)).drew) (some ⟨W2.heap.size, 0, none⟩) [.int .i64 Y.kind, .string Y.text, .slice A10 Y.slots.length c10] := (Cells.lit (w := W2) (ty := 27) (ys := [.int .i64 Y.kind, .string Y.text, .slice A10 Y.slots.length c10]) (g := W2.heap.size) rfl).fr0 ((Fr.refl _ _).drew)
                    refine step_append_g rfl (.tmp 75) (.tmp 77) _ rfl elemTrees (.slice A9 G2.length c9) (G2.flatMap encT) rfl hGa.own (some ⟨W2.heap.size, 0, none⟩) 1 1 [.int .i64 Y.kind, .string Y.text, .slice A10 Y.slots.length c10] rfl hcl rfl (Nat.le_refl _) (by simp; exact ⟨rfl, rfl, rfl⟩) hbig (by simp; omega) ?_
                    intro A11 c11 w11 ho11 hg11 hat11
                    have hC := hC.grown hg11 hrow
                    have hCV := Fr.app (((hV2).alloc (.cells #[.int .i64 Y.kind, .string Y.text, .slice A10 Y.slots.length c10] 27)).drew) hGa.own (Nat.le_refl _) hg11
                    have hGb1 := ((hG2.alloc (.cells #[.int .i64 Y.kind, .string Y.text, .slice A10 Y.slots.length c10] 27)).drew).grown hg11 (hGT.ne hgV)
                    have g0 := hGb1.cell k hgk
                    have g1 := hGb1.frozen k
                    refine hK.out _ _ (by with_reducible exact ⟨(hC).cell o22 hno, (hC).cell y0 hny, (hC).cell y1 hny, (hC).cell y2 hny⟩) (fun hHeld2 => ?_)
                    clear hK K hHeld
                    have hHeld := hHeld2
                    clear hHeld2
                    try simp only [Act.put, List.setIfInBounds_toArray, List.set_cons_zero, List.set_cons_succ]
                    refine wpAnyH_take (i := 11) (v := ?_) rfl (by kernel_rfl) (by kernel_rfl) (by kernel_rfl) (fun _ _ _ h => h) (Or.inl ⟨by rfl, fun w hSw => ?_⟩) (by assumption) ?_
                    rotate_left 1
                    · (try dsimp only at hSw); go_simp; try with_reducible rfl
                    try simp only [Act.put, List.setIfInBounds_toArray, List.set_cons_zero, List.set_cons_succ]
                    refine wpAnyH_ready (rs := [12]) (by kernel_rfl) (by simp) ?_
                    refine AllReadyH.cons rfl (fun K hK => ?_) AllReadyH.nil
                    go_simp
                    have hC := hC.setCell (p := ⟨gb, k, none⟩) (.inl hgz) (.slice A11 (G2.length + 1) c11)
                    have hCV := hCV.setCell (p := ⟨gb, k, none⟩) (.inl (by simp)) (.slice A11 (G2.length + 1) c11)
                    refine hK.out _ _ (by with_reducible exact ⟨(hC).cell o22 hno, (hC).cell y0 hny, (hC).cell y1 hny, (hC).cell y2 hny⟩) (fun hHeld2 => ?_)
                    clear hK K hHeld
                    have hHeld := hHeld2
                    clear hHeld2
                    try simp only [Act.put, List.setIfInBounds_toArray, List.set_cons_zero, List.set_cons_succ]
                    refine wpAnyH_done (by kernel_rfl) ?_ _
                    refine NoPanic.normal ?_
                    have hGc := (hGa.app (G2 := [((Y, A10, c10) : TreeH)]) (m := 1) (fun p hp => by
                      obtain rfl : p = ((Y, A10, c10) : TreeH) := by simpa using hp
                      exact (RH.sub hRY fun j _ hj => hGT.bad_lt (by omega) j hj).fr0 (((Fr.refl _ _).alloc _).drew)) rfl rfl hg11 hat11 ho11).fr ((Fr.refl [gb] w11).setCell (p := ⟨gb, k, none⟩) (.inl (by simp)) (.slice A11 (G2.length + 1) c11)) (by simp; exact hgV)
                    have hBn := hGb1.set_ k (.slice A11 (G2.length + 1) c11)
                    go_wp2_with fail
                    go_roundw
                    case rel =>
                      refine ⟨m + 1, A11, c11, G2 ++ [((Y, A10, c10) : TreeH)], by omega, by go_num, by rw [hnx.out, hrx.out]; exact congrArg (Value.int .i64) (by show (st3.2 : Int) + (y.nodes : Int) = ((st3.2 + y.nodes : Nat) : Int); omega), (show _ = _ by rw [List.map_append, hG2m.out, hnx.out, hrx.out]; rfl), (show _ = _ by rw [List.length_append, hG2l.out]; rfl), hGc, ?_, hCV⟩
                      rw [List.setIfInBounds_toArray, List.set_set] at hBn
                      rw [List.length_append]
                      exact hBn
                    case measure => simp [intOf]; omega
                  · go_simp
                    have hC := (hCW.alloc (.cells #[.int .i64 Y.kind, .string Y.text, .slice A10 Y.slots.length c10] 27)).drew
                    have g0 : (W2.alloc (.cells #[.int .i64 Y.kind, .string Y.text, .slice A10 Y.slots.length c10] 27)).cell? ⟨gb, k, none⟩ = some (.slice A9 G2.length c9) := (hG2.alloc _).cell k hgk
                    refine hK.out _ _ (by with_reducible exact ⟨(hC).cell o22 hno, (hC).cell y0 hny, (hC).cell y1 hny, (hC).cell y2 hny⟩) (fun hHeld2 => ?_)
                    clear hK K hHeld
                    have hHeld := hHeld2
                    clear hHeld2
                    try simp only [Act.put, List.setIfInBounds_toArray, List.set_cons_zero, List.set_cons_succ]
                    refine wpAnyH_ready (rs := [7]) (by kernel_rfl) (by simp) ?_
                    refine AllReadyH.cons rfl (fun K hK => ?_) AllReadyH.nil
                    go_simp
                    refine hK.out _ _ (by with_reducible exact ⟨(hC).cell o22 hno, (hC).cell y0 hny, (hC).cell y1 hny, (hC).cell y2 hny⟩) (fun hHeld2 => ?_)
                    clear hK K hHeld
                    have hHeld := hHeld2
                    clear hHeld2
                    try simp only [Act.put, List.setIfInBounds_toArray, List.set_cons_zero, List.set_cons_succ]
                    refine wpAnyH_ready (rs := [10]) (by kernel_rfl) (by simp) ?_
                    refine AllReadyH.cons rfl (fun K hK => ?_) AllReadyH.nil
                    have hGa := hGT2.fr0 (((Fr.refl [] _).alloc (.cells #[.int .i64 Y.kind, .string Y.text, .slice A10 Y.slots.length c10] 27)).drew)
                    have hcl : Cells ((W2.alloc (.cells #[.int .i64 Y.kind, .string Y.text, .slice A10 Y.slots.length c10] 27)).drew) (some ⟨W2.heap.size, 0, none⟩) [.int .i64 Y.kind, .string Y.text, .slice A10 Y.slots.length c10] := (Cells.lit (w := W2) (ty := 27) (ys := [.int .i64 Y.kind, .string Y.text, .slice A10 Y.slots.length c10]) (g := W2.heap.size) rfl).fr0 ((Fr.refl _ _).drew)
                    refine step_append_g rfl (.tmp 75) (.tmp 77) _ rfl elemTrees (.slice A9 G2.length c9) (G2.flatMap encT) rfl hGa.own (some ⟨W2.heap.size, 0, none⟩) 1 1 [.int .i64 Y.kind, .string Y.text, .slice A10 Y.slots.length c10] rfl hcl rfl (Nat.le_refl _) (by simp; exact ⟨rfl, rfl, rfl⟩) hbig (by simp; omega) ?_
                    intro A11 c11 w11 ho11 hg11 hat11
                    have hC := hC.grown hg11 hrow
                    have hCV := Fr.app (((hV2).alloc (.cells #[.int .i64 Y.kind, .string Y.text, .slice A10 Y.slots.length c10] 27)).drew) hGa.own (Nat.le_refl _) hg11
                    have hGb1 := ((hG2.alloc (.cells #[.int .i64 Y.kind, .string Y.text, .slice A10 Y.slots.length c10] 27)).drew).grown hg11 (hGT.ne hgV)
                    have g0 := hGb1.cell k hgk
                    have g1 := hGb1.frozen k
                    refine hK.out _ _ (by with_reducible exact ⟨(hC).cell o22 hno, (hC).cell y0 hny, (hC).cell y1 hny, (hC).cell y2 hny⟩) (fun hHeld2 => ?_)
                    clear hK K hHeld
                    have hHeld := hHeld2
                    clear hHeld2
                    try simp only [Act.put, List.setIfInBounds_toArray, List.set_cons_zero, List.set_cons_succ]
                    refine wpAnyH_take (i := 11) (v := ?_) rfl (by kernel_rfl) (by kernel_rfl) (by kernel_rfl) (fun _ _ _ h => h) (Or.inl ⟨by rfl, fun w hSw => ?_⟩) (by assumption) ?_
                    rotate_left 1
                    · (try dsimp only at hSw); go_simp; try with_reducible rfl
                    try simp only [Act.put, List.setIfInBounds_toArray, List.set_cons_zero, List.set_cons_succ]
                    refine wpAnyH_ready (rs := [12]) (by kernel_rfl) (by simp) ?_
                    refine AllReadyH.cons rfl (fun K hK => ?_) AllReadyH.nil
                    go_simp
                    have hC := hC.setCell (p := ⟨gb, k, none⟩) (.inl hgz) (.slice A11 (G2.length + 1) c11)
                    have hCV := hCV.setCell (p := ⟨gb, k, none⟩) (.inl (by simp)) (.slice A11 (G2.length + 1) c11)
                    refine hK.out _ _ (by with_reducible exact ⟨(hC).cell o22 hno, (hC).cell y0 hny, (hC).cell y1 hny, (hC).cell y2 hny⟩) (fun hHeld2 => ?_)
                    clear hK K hHeld
                    have hHeld := hHeld2
                    clear hHeld2
                    try simp only [Act.put, List.setIfInBounds_toArray, List.set_cons_zero, List.set_cons_succ]
                    refine wpAnyH_done (by kernel_rfl) ?_ _
                    refine NoPanic.normal ?_
                    have hGc := (hGa.app (G2 := [((Y, A10, c10) : TreeH)]) (m := 1) (fun p hp => by
                      obtain rfl : p = ((Y, A10, c10) : TreeH) := by simpa using hp
                      exact (RH.sub hRY fun j _ hj => hGT.bad_lt (by omega) j hj).fr0 (((Fr.refl _ _).alloc _).drew)) rfl rfl hg11 hat11 ho11).fr ((Fr.refl [gb] w11).setCell (p := ⟨gb, k, none⟩) (.inl (by simp)) (.slice A11 (G2.length + 1) c11)) (by simp; exact hgV)
                    have hBn := hGb1.set_ k (.slice A11 (G2.length + 1) c11)
                    go_wp2_with fail
                    go_roundw
                    case rel =>
                      refine ⟨m + 1, A11, c11, G2 ++ [((Y, A10, c10) : TreeH)], by omega, by go_num, by rw [hnx.out, hrx.out]; exact congrArg (Value.int .i64) (by show (st3.2 : Int) + (y.nodes : Int) = ((st3.2 + y.nodes : Nat) : Int); omega), (show _ = _ by rw [List.map_append, hG2m.out, hnx.out, hrx.out]; rfl), (show _ = _ by rw [List.length_append, hG2l.out]; rfl), hGc, ?_, hCV⟩
                      rw [List.setIfInBounds_toArray, List.set_set] at hBn
                      rw [List.length_append]
                      exact hBn
                    case measure => simp [intOf]; omega
              · obtain rfl : m = q.length := by omega
                rw [List.take_length] at hG2m
                have hrP : Hid (rP g at_ x st q = (st.1 ++ [(q.foldl (rX g at_ x) ([], st.2)).1], (q.foldl (rX g at_ x) ([], st.2)).2)) := rfl
                have hR2 : Hid (G2.map (·.1) = (q.foldl (rX g at_ x) ([], st.2)).1) := hG2m
                have hRw : RowAt (Bad gb (some ⟨gb, 0, none⟩)) (nn + mx) wr A9 c9 (G2.map (·.1)) := hGT.rowAt.sub fun j _ hj => hGR.bad_lt (by omega) j hj
                have hGn := hGR.upd (i := k) (p := ((G2.map (·.1), A9, c9) : RowH)) (mkRows_len (by rw [hGl.out]; exact hk)) hlt hfm (by
                  have h := hBg
                  have e : encRow ((G2.map (·.1), A9, c9) : RowH) = .slice A9 G2.length c9 := by show Value.slice A9 (G2.map (·.1)).length c9 = _; rw [List.length_map]
                  rw [e]
                  exact h) hRw
                have hGs : (mkRows t.slots.length G).set k ((G2.map (·.1), A9, c9) : RowH) = mkRows t.slots.length (G ++ [(G2.map (·.1), A9, c9)]) := by
                  have h := mkRows_set (n := t.slots.length) (G := G) (p := ((G2.map (·.1), A9, c9) : RowH)) (by rw [hGl.out]; exact hlt)
                  rw [hGl.out] at h
                  exact h
                rw [hGs] at hGn
                have hFn : Fr [] w wr := hf.trans2 hfm fun j hj => .inr (by simp at hj; omega)
                rw [List.take_length]
                go_wp2_with fail
                go_roundw
                case rel => exact ⟨k + 1, G ++ [((G2.map (·.1), A9, c9) : RowH)], by omega, by go_num, by rw [hnk.out, hrP.out], (show _ = _ by rw [List.map_append, hGm.out, hnk.out, hrP.out, ← hR2.out]; rfl), (show _ = _ by rw [List.length_append, hGl.out]; rfl), hGn, hB1.fr hfm (by simp; exact ne1), hBx.fr hfm (by simp; exact nex), hB2.fr hfm (by simp; omega), hBo.fr hfm (by simp; exact ne2), hFn⟩
                case measure => simp [intOf]; omega
          · obtain rfl : k = t.slots.length := by omega
            rw [List.take_length] at hGm
            rw [mkRows_all hGl.out] at hGR
            have hRB := hGR.rowsB
            rw [hGm.out] at hRB
            have hS2 : Hid (((t.slots.foldl (rP g at_ x) ([], n + 1))).2 = n + t.nodes) := by
              show _ = _
              rw [rP_snd]
              show fold2 nstN (n + 1) t.slots = _
              rw [nst_shift, T.nodes_eq]
            have hln : Hid (t.slots.length = ((t.slots.foldl (rP g at_ x) ([], n + 1))).1.length) := by show _ = _; rw [rP_len]; simp
            rw [List.take_length, hS2.out]
            generalize t.slots.foldl (rP g at_ x) ([], n + 1) = st at *
            have hRH : RH (fun k => k < gb) (nn + mx + 1) wr (some ⟨gb, 0, none⟩) t.slots.length (T.mk t.kind t.text st.1) := hRB
            have u0 := hB2.cell 0 rfl
            have u1 := hB2.cell 1 rfl
            have u2 := hB2.cell 2 rfl
            have v0 := hB2.frozen 0
            have v1 := hB2.frozen 1
            have v2 := hB2.frozen 2
            clear xb0 xb1 xb2
            go_wp2_with fail
            refine bodyPost_ret (results_tree2 rfl _ _ (w.heap.size + 1 + 1) rfl (hB2.three _ _ _)) rfl ?_
            rw [hE.out, hln.out]
            rw [hln.out] at hRH
            refine ⟨_, _, rfl, fr_three hf (.inr (by omega)) _ _ _, ?_⟩
            exact ((hRH.fr (fr_three (S := [w.heap.size + 1 + 1]) (Fr.refl _ _) (.inl (by simp)) _ _ _) (by simp; omega)).sub fun j _ hj => by have hj : j < w.heap.size := hj; show j < gb; omega).mono (by omega)
end

/- The small grammar and the small tree of the laws: plain. -/
section
open Go.RowKit
def gG : List Ru := [⟨⟨#[40]⟩, ⟨#[41]⟩, false, [⟨2, [0, 1, 2], ⟨#[43]⟩⟩]⟩, ⟨emptyS, emptyS, true, []⟩, ⟨⟨#[45]⟩, emptyS, false, [⟨0, [0, 1], emptyS⟩]⟩]
def LG : List Int := [1, 1, 2]
def tG7 : T := .mk 1 ⟨#[55]⟩ []
def tG8 : T := .mk 1 ⟨#[56]⟩ []
def tG2 : T := .mk 2 emptyS [[tG8]]
def tG : T := .mk 0 emptyS [[tG7, tG2]]
def uG : T := .mk 0 emptyS [[tG7]]
def xG : T := .mk 2 emptyS [[.mk 0 emptyS [[]]]]
theorem lok_G : LOk gG LG := by
 refine ⟨?_, ⟨rfl, ?_⟩, ?_, ?_⟩
 ·intro r hr s hs
  have hr : r = gG[0] ∨ r = gG[1] ∨ r = gG[2] := by simpa [gG] using hr
  rcases hr with rfl | rfl | rfl
  ·obtain rfl : s = ⟨2, [0, 1, 2], ⟨#[43]⟩⟩ := by simpa [gG] using hs
   decide
  ·simp [gG] at hs
  ·obtain rfl : s = ⟨0, [0, 1], emptyS⟩ := by simpa [gG] using hs
   decide
 ·intro k r h
  match k, h with
  | 0, h => obtain rfl := Option.some.inj h; rfl
  | 1, h => obtain rfl := Option.some.inj h; rfl
  | 2, h => obtain rfl := Option.some.inj h; rfl
  | k + 3, h => cases h
 ·decide
 ·intro r hr
  have hr : r = gG[0] ∨ r = gG[1] ∨ r = gG[2] := by simpa [gG] using hr
  rcases hr with rfl | rfl | rfl <;> decide
theorem ex_p1 : printOf gG LG tG = ([40, 55, 43, 45, 56, 41], 0) := by kernel_rfl
theorem ex_p2 : printOf gG LG uG = ([40, 55, 41], 0) := by kernel_rfl
theorem ex_can : prunOf gG LG tG = ([1, 2], 0) := by kernel_rfl
theorem ex_prune : pruneOf gG LG tG [2] = (uG, 0) := by kernel_rfl
theorem ex_least : leastOf gG LG 2 = (xG, 0) := by kernel_rfl
theorem ex_nodes : tG.nodes = 4 := by kernel_rfl
theorem ex_nodes2 : xG.nodes = 2 := by kernel_rfl
theorem ex_nodes3 : uG.nodes = 2 := by kernel_rfl
end

end Go.Proofs.YtippadnbngcjlaaGreatDoor
