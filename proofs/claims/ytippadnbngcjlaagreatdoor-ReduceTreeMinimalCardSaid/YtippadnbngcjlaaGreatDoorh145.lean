/- Texts of this seat, one behind the other: TrL5, LTreeM. -/
import Derived.Test.YtippadnbngcjlaaGreatDoorh138
import Derived.Test.YtippadnbngcjlaaGreatDoorh144
import Derived.Test.YtippadnbngcjlaaGreatDoorh139
import Derived.Test.YtippadnbngcjlaaGreatDoorh13
import Derived.Test.YtippadnbngcjlaaGreatDoorh11
namespace Go.Proofs.YtippadnbngcjlaaGreatDoor
set_option linter.unusedVariables false

/- What is bare in plain terms is bare as the law asks it. -/
section
open Go.RowKit
section
variable {g : List Ru} {L : List Int} {t r : T} {o : Orc}
theorem rest_depth (hv : Val g t) (d : Int) (p : Sp) (hp : p ∈ restT g t d) : d + 1 ≤ p.depth := by
 obtain ⟨r, hr, _, hlen, _, _, hsub⟩ := val_parts hv
 rw [restT_eq hr] at hp
 obtain ⟨j, hj⟩ := List.getElem?_of_mem hp
 rcases spot_at_rows _ _ j hj with h | ⟨z, hz, x, hx, i, o, h1, _, _⟩
 ·simp at h
 ·have hz2 : z.2 ∈ t.slots := (List.of_mem_zip hz).2
  exact (spot_depth x (hsub _ hz2 x hx) z.1 (d + 1) p (List.mem_of_getElem? h1)).1
theorem prunIx_mem {l : List Sp} {k : Nat} {x : Int} (h : x ∈ prunIx L l k) : ∃ (i : Nat) (p : Sp), x = i ∧ 0 < i ∧ i < k ∧ l[i]? = some p ∧ prunB L p = true := by
 unfold prunIx at h
 obtain ⟨i, hi, rfl⟩ := List.mem_map.1 h
 obtain ⟨h1, h2⟩ := List.mem_filter.1 hi
 unfold prunAt at h2
 rcases hp : l[i]? with _ | p
 ·rw [hp] at h2; simp at h2
 ·rw [hp] at h2
  simp at h2
  exact ⟨i, p, rfl, h2.1, by simpa using h1, hp, h2.2⟩
theorem chk_small (hg : chkG g L = 0) {y : T} (hv : Val g y) (hn : y.nodes ≤ 14) : chkT g L y = 0 := by
 rw [chkT_node hg (by have := depth_le_nodes y; omega)]
 exact hv
theorem bare_prune (G : GOk g L) (hg : chkG g L = 0) (hb : BareT g L (fun q => sayT o (textL g q)) t r) : ∀ x ∈ (prunOf g L r).1, Dull g L o (pruneOf g L r [x]).1 := by
 intro x hx
 have hr := chk_small hg hb.ok.val hb.ok.few
 have hp := prunOf_ok hr
 rw [hp] at hx
 obtain ⟨i, p, rfl, h0, h1, h2, h3⟩ := prunIx_mem hx
 have hl := spots_len r hb.ok.val slot0 1
 have hs : isSet (((prunIx L (spotsT g r slot0 1) (spotsT g r slot0 1).length).length : Int) + (r.nodes : Int)) [(i : Int)] = true := by
  refine isSet_iff.2 ⟨fun x hx => ?_, List.pairwise_singleton _ _⟩
  rw [List.mem_singleton] at hx
  omega
 rw [pruneOf_ok hp hs (fun x hm => by rw [List.mem_singleton] at hm; rw [hm]; exact hx)]
 have hd : 2 ≤ p.depth := by
  obtain ⟨j, rfl⟩ : ∃ j, i = j + 1 := ⟨i - 1, by omega⟩
  rw [spotsT_eq, List.getElem?_cons_succ] at h2
  have := rest_depth hb.ok.val 1 p (List.mem_of_getElem? h2)
  omega
 obtain ⟨a1, a2, _⟩ := pruned_ok (at_ := [(i : Int)]) G.ro G.lok G.le hb.ok.val (fun x hm => ⟨i, p, by rw [List.mem_singleton] at hm; exact hm, h0, h2, h3⟩)
 have hf := hb.ok.few
 refine ⟨chk_small hg a1 (Nat.le_trans a2 hf), by show (prunedT g L [(i : Int)] r).nodes ≤ 1024; omega, ?_⟩
 exact hb.prune p.depth.toNat (by omega) i (cand_in (by omega) h2 (by omega) h3)
theorem bare_hoist (G : GOk g L) (hg : chkG g L = 0) (hb : BareT g L (fun q => sayT o (textL g q)) t r) : ∀ a b : Nat, (hoistE g L r a b).2 = 0 → Dull g L o (hoistE g L r a b).1 := by
 intro a b h
 have hr := chk_small hg hb.ok.val hb.ok.few
 have he := hoistE_ok (at_ := (a : Int)) (from_ := (b : Int)) hr
 rcases hh : hoistOf g r a b with _ | y
 ·rw [hh] at he
  rw [he] at h
  simp at h
 ·rw [hh] at he
  rw [he]
  obtain ⟨a1, a2⟩ := hoist_ok hb.ok.val hh
  have hf := hb.ok.few
  exact ⟨chk_small hg a1 (by show y.nodes ≤ 14; omega), by show y.nodes ≤ 1024; omega, hb.hoist a b y hh⟩
end
end

/- ReduceTreeMinimal: the walk of the law. -/
section
open Go.RowKit
theorem elemSt : Elem Tryz.prog 39 9 (.string emptyS) 1 16 := ⟨Tryz.underlying39, by kernel_rfl, rfl, by omega, by omega⟩
def encTx (s : Bs) : Value := .string (tx s)
theorem tx_ne {a b : Bs} (h : a ≠ b) : ((tx a).toList == (tx b).toList) = false := by
 unfold tx
 rw [ByteArray.toList_mk, ByteArray.toList_mk]
 exact beq_false_of_ne h
theorem tm_next {TT ks : List Bs} {x : Bs} (h : Hid (ks = TT.take ks.length)) (hq : Hid (TT[ks.length]? = some x)) : Hid (ks ++ [x] = TT.take (ks ++ [x]).length) := by
 show _ = _
 rw [List.length_append, List.length_singleton, List.take_add_one, hq.out, ← h.out]
 rfl
theorem one_tx (s : Bs) : (encTx s).oneCell' = true := rfl
theorem own_kept2 {w w' : World} {b n m : Nat} {e t : TypeId} {sz sz' : Nat} {v u : Value} {xs ys : List Value} (h : w.ownsRow b e sz v n xs) (h' : w.ownsRow b t sz' u m ys) (ht : t ≠ e) (hg : w.grownBy w' u.ownBlock) : w'.ownsRow b e sz v n xs :=
 h.kept hg (by
  rcases hk : v.ownBlock with _ | k
  ·exact .inl rfl
  ·exact .inr fun he => own_ne_own h h' ht k hk he.symm)
def TMInv (w : World) (TT : List Bs) (say : Bs → Int) (m : Nat) (v s : Value) (wr : World) : Prop :=
 ∃ (ks : List Bs) (A : Option Addr) (c : Nat) (B : Option Addr) (d : Nat), Hid (ks = TT.take ks.length) ∧ ks.length ≤ TT.length ∧ TT.length < ks.length + m ∧ v = .slice A ks.length c ∧ s = .slice B ks.length d ∧
  wr.ownsRow w.heap.size 46 1 (.slice A ks.length c) ks.length ((ks.map say).map (.int .u8)) ∧ wr.ownsRow w.heap.size 9 1 (.slice B ks.length d) ks.length (ks.map encTx) ∧ Fr [] w wr
set_option maxRecDepth 100000 in
set_option maxHeartbeats 6400000 in
theorem LTreeM_any (A AT : Option Addr) (c cT : Nat) (g : List Ru) (n : Nat) (t : T) (S : Nat → Prop) (v : Value) (o : Orc) (w : World) (ha : RRu w A c g) (hR : RH S n w AT cT t) (hov : OrcIs w v o) (htab : Tab w) :
  Calls Tryz.prog 3 #[.agg #[.slice A g.length c], .agg (tcells t AT cT), v] w (RetV w (.bool true)) := by
 obtain ⟨L, hL⟩ := lok_exists g
 obtain ⟨N, nn, B, b, rfl, hN, hB, hs, hlo⟩ := id hov
 have HOV := Lib.hid hov
 clear hov
 obtain ⟨W, hW⟩ : ∃ W, W = ((w.alloc (.cells #[.slice A g.length c] 24)).alloc (.cells #[.int .i64 t.kind, .string t.text, .slice AT t.slots.length cT] 27)).alloc (.cells #[.slice N o.need.length nn, .slice B o.bar.length b, .int .u64 o.salt, .int .u8 o.loose] 31) := ⟨_, rfl⟩
 have hF : Fr [] w W := by rw [hW]; exact frx
 have hB1 : Blk W w.heap.size 24 #[.slice A g.length c] := by rw [hW]; exact ((Blk.new w _ _ _ rfl).alloc _).alloc _
 have hB2 : Blk W (w.heap.size + 1) 27 #[.int .i64 t.kind, .string t.text, .slice AT t.slots.length cT] := by rw [hW]; exact (Blk.new _ _ _ _ (by simp)).alloc _
 have hB3 : Blk W (w.heap.size + 2) 31 #[.slice N o.need.length nn, .slice B o.bar.length b, .int .u64 o.salt, .int .u8 o.loose] := by rw [hW]; exact Blk.new _ _ _ _ (by simp)
 have q0 : W.cell? ⟨w.heap.size, 0, none⟩ = some (.slice A g.length c) := hB1.cell 0 rfl
 have p0 : W.cell? ⟨w.heap.size + 1, 0, none⟩ = some (.int .i64 t.kind) := hB2.cell 0 rfl
 have p1 : W.cell? ⟨w.heap.size + 1, 1, none⟩ = some (.string t.text) := hB2.cell 1 rfl
 have p2 : W.cell? ⟨w.heap.size + 1, 2, none⟩ = some (.slice AT t.slots.length cT) := hB2.cell 2 rfl
 rw [hW] at q0 p0 p1 p2
 have HW := Lib.hid hW.symm
 clear hW
 have htab2 := Lib.hid htab
 clear htab
 go_enter Tryz.func3, Tryz.ntmps3
 go_wp2_with fail
 rw [HW.out]
 clear q0 p0 p1 p2
 refine (huge_any A c g n t _ S _ (ha.fr0 hF) ⟨AT, cT, rfl, hR.fr0 hF⟩).mono ?_
 rintro e w1 ⟨hb, rfl, hf1, hhb⟩
 have hF1 := hF.trans hf1
 have hB1 := hB1.fr hf1 (by simp)
 have hB2 := hB2.fr hf1 (by simp)
 have hB3 := hB3.fr hf1 (by simp)
 clear hf1
 rcases hb with _ | _
 ·have hn : t.nodes ≤ 30 := hhb rfl
  clear hhb
  have e0 := hB3.cell 0 rfl
  have e1 := hB3.cell 1 rfl
  have e2 := hB3.cell 2 rfl
  have e3 := hB3.cell 3 rfl
  have hgc := Great_any _ o w1 (HOV.out.fr0 hF1)
  rcases hg : greatO o with _ | _
  ·have HG := Lib.hid hg
   rw [hg] at hgc
   clear hg
   go_wp2_with fail
   refine hgc.mono ?_
   rintro e w2 ⟨rfl, hf2⟩
   have hF2 := hF1.trans hf2
   have hB1 := hB1.fr hf2 (by simp)
   have hB2 := hB2.fr hf2 (by simp)
   have hB3 := hB3.fr hf2 (by simp)
   clear hgc hf2 e0 e1 e2 e3
   have q0 : w2.cell? ⟨w.heap.size, 0, none⟩ = some (.slice A g.length c) := hB1.cell 0 rfl
   have p0 : w2.cell? ⟨w.heap.size + 1, 0, none⟩ = some (.int .i64 t.kind) := hB2.cell 0 rfl
   have p1 : w2.cell? ⟨w.heap.size + 1, 1, none⟩ = some (.string t.text) := hB2.cell 1 rfl
   have p2 : w2.cell? ⟨w.heap.size + 1, 2, none⟩ = some (.slice AT t.slots.length cT) := hB2.cell 2 rfl
   go_wp2_with fail
   refine (refCheckTree_any A c g L n t _ S _ (ha.fr0 hF2) hL ⟨AT, cT, rfl, hR.fr0 hF2⟩ (by omega)).mono ?_
   rintro e w3 ⟨rfl, hf3⟩
   have hF3 := hF2.trans hf3
   have hB1 := hB1.fr hf3 (by simp)
   have hB2 := hB2.fr hf3 (by simp)
   have hB3 := hB3.fr hf3 (by simp)
   clear hf3 q0 p0 p1 p2
   by_cases hck : chkT g L t = 0
   ·have HCK := Lib.hid hck
    rw [hck]
    clear hck
    have p0 : w3.cell? ⟨w.heap.size + 1, 0, none⟩ = some (.int .i64 t.kind) := hB2.cell 0 rfl
    have p1 : w3.cell? ⟨w.heap.size + 1, 1, none⟩ = some (.string t.text) := hB2.cell 1 rfl
    have p2 : w3.cell? ⟨w.heap.size + 1, 2, none⟩ = some (.slice AT t.slots.length cT) := hB2.cell 2 rfl
    go_wp2_with fail
    refine (refNodes_any n t _ S _ ⟨AT, cT, rfl, hR.fr0 hF3⟩ (by omega)).mono ?_
    rintro e w4 ⟨rfl, hf4⟩
    have hF4 := hF3.trans hf4
    have hB1 := hB1.fr hf4 (by simp)
    have hB2 := hB2.fr hf4 (by simp)
    have hB3 := hB3.fr hf4 (by simp)
    clear hf4 p0 p1 p2
    by_cases h14 : t.nodes ≤ 14
    ·have G := gok_of hL HCK.out
     have hcg := (chkT_zero HCK.out).1
     have hval := (chkT_zero HCK.out).2.2.2.1
     have hTO : TOk g 14 t := ⟨hval, h14⟩
     have hto : ∀ q, told (sayT o q) = sayT o q := sayT_told o
     have HAT : Hid (∀ (k : Nat) (q : T), (lawQ g L t (sayT o))[k]? = some q → treeOf g L t ((((lawQ g L t (sayT o)).map (textL g)).take k).map (sayT o)) = ((false, q), 0) ∧ TOk g 14 q) :=
      fun k q hq => ⟨lawQ_at G hto HCK.out hTO hq, lawQ_ok G hTO q (List.mem_of_getElem? hq)⟩
     have HEND : Hid (_ ∨ _) := lawQ_end (o := sayT o) G hto HCK.out hTO
     have hQL : (lawQ g L t (sayT o)).length ≤ 4001 := lawQ_len G hTO
     have HND : Hid (((lawQ g L t (sayT o)).map (textL g)).Nodup) := lawQ_nodup
     have HGG : Hid (GOk g L) := G
     have HCG := Lib.hid hcg
     clear G hcg hval hTO hto
     generalize lawQ g L t (sayT o) = QT at *
     have HB1 := Lib.hid hB1
     have HB2 := Lib.hid hB2
     have HB3 := Lib.hid hB3
     have HF4 := Lib.hid hF4
     have hw4 := hB3.lt
     clear hF hF1 hF2 hF3 hB1 hB2 hB3 HW
     go_wp2_with fail
     have hI : TMInv w4 (QT.map (textL g)) (sayT o) (QT.length + 1) (.slice none 0 0) (.slice none 0 0) w4 :=
      ⟨[], none, 0, none, 0, by show _ = _; simp, Nat.zero_le _, by simp, rfl, rfl, World.ownsRow_nil _ _ _ _, World.ownsRow_nil _ _ _ _, Fr.refl _ _⟩
     go_loopg [7, 8] (QT.length + 1) (TMInv w4 (QT.map (textL g)) (sayT o))
     case atStart => exact hI
     case round =>
      clear hI
      obtain ⟨ks, A5, c5, B5, d5, hks, hle, hgt, rfl, rfl, ho5, hp5, hF5⟩ := hrel
      obtain ⟨m, rfl⟩ : ∃ m, gk = m + 1 := ⟨gk - 1, by omega⟩
      rw [List.length_map] at hle hgt
      have hr5 : Rd wr (.int .u8) A5 c5 (ks.map (sayT o)) := own_rd ho5 rfl (by simp)
      have d40 : decide ((ks.length : Int) ≤ 4096) = true := by simp; omega
      have hsc : ∀ W, RRu W A c g → RH S n W AT cT t → Rd W (.int .u8) A5 c5 (ks.map (sayT o)) → Calls Tryz.prog 9 #[.agg #[.slice A g.length c], .agg #[.int .i64 t.kind, .string t.text, .slice AT t.slots.length cT], .slice A5 ks.length c5] W (RetTQ W (treeOf g L t (ks.map (sayT o)))) := fun W h1 h2 h3 => by
       have := Tree_any A A5 c c5 g L n t _ S (ks.map (sayT o)) W h1 hL ⟨AT, cT, rfl, h2⟩ (by omega) h3
       rw [List.length_map] at this
       exact this
      have HSC := Lib.hid hsc
      clear hsc
      have hFr := HF4.out.trans hF5
      have q0 : wr.cell? ⟨w.heap.size, 0, none⟩ = some (.slice A g.length c) := (HB1.out.fr hF5 (by simp)).cell 0 rfl
      have p0 : wr.cell? ⟨w.heap.size + 1, 0, none⟩ = some (.int .i64 t.kind) := (HB2.out.fr hF5 (by simp)).cell 0 rfl
      have p1 : wr.cell? ⟨w.heap.size + 1, 1, none⟩ = some (.string t.text) := (HB2.out.fr hF5 (by simp)).cell 1 rfl
      have p2 : wr.cell? ⟨w.heap.size + 1, 2, none⟩ = some (.slice AT t.slots.length cT) := (HB2.out.fr hF5 (by simp)).cell 2 rfl
      rcases hq : QT[ks.length]? with _ | q
      ·have hTl : QT.length = ks.length := by have := List.getElem?_eq_none_iff.1 hq; omega
       have hall : ks = QT.map (textL g) := by
        have h1 := hks.out
        rw [List.take_of_length_le (by rw [List.length_map]; omega)] at h1
        exact h1
       clear hq hgt
       rcases HEND.out with ⟨h2, r, hres, hbt⟩ | ⟨h2, h1, hres⟩
       ·have hrk := chk_small HCG.out hbt.ok.val hbt.ok.few
        have hpr : Hid (printOf g L r = (textL g r, 0)) := printOf_ok hrk
        have htl : (textL g r).length ≤ 1000000 := (chkT_text hrk).2
        have hrf := hbt.ok.few
        have hrn : r.nodes ≤ 1024 := by omega
        have hrn2 : r.nodes ≤ 1000 := by omega
        have hrn3 : r.nodes ≤ 9223372036854775807 := by omega
        have htn3 : t.nodes ≤ 9223372036854775807 := by omega
        have HSY : Hid (sayT o (textL g r) = 2) := hbt.fails
        have hbl := hbt.le
        have dle : decide ((r.nodes : Int) ≤ (t.nodes : Int)) = true := by simp; exact hbl
        have HBP := Lib.hid (bare_prune HGG.out HCG.out hbt)
        have HBH := Lib.hid (bare_hoist HGG.out HCG.out hbt)
        rw [← hall] at hres
        rw [hres] at HSC
        clear hres hbt h2 hall hks HAT HEND HND hrk
        go_wp2_with fail
        refine (HSC.out _ (ha.fr0 hFr) (hR.fr0 hFr) hr5).mono ?_
        rintro e w6 ⟨A6, c6, rfl, hf6, hX⟩
        clear q0 p0 p1 p2
        obtain ⟨W6, hW6⟩ : ∃ W6, W6 = w6.alloc (.cells #[.bool true, .int .i64 r.kind, .string r.text, .slice A6 r.slots.length c6] 41) := ⟨_, rfl⟩
        have hf6' : Fr [] wr W6 := by rw [hW6]; exact hf6.alloc _
        have hQ : Blk W6 w6.heap.size 41 #[.bool true, .int .i64 r.kind, .string r.text, .slice A6 r.slots.length c6] := by rw [hW6]; exact Blk.new _ _ _ _ rfl
        have hX : RH (fun _ => False) 1024 W6 A6 c6 r := by rw [hW6]; exact (hX.sub (S' := fun _ => False) fun _ _ h => h.elim).fr0 ((Fr.refl _ _).alloc _)
        have hF6 := hF5.trans hf6'
        have hFr6 := hFr.trans hf6'
        have q0 : W6.cell? ⟨w.heap.size, 0, none⟩ = some (.slice A g.length c) := (HB1.out.fr hF6 (by simp)).cell 0 rfl
        have p0 : W6.cell? ⟨w.heap.size + 1, 0, none⟩ = some (.int .i64 t.kind) := (HB2.out.fr hF6 (by simp)).cell 0 rfl
        have p1 : W6.cell? ⟨w.heap.size + 1, 1, none⟩ = some (.string t.text) := (HB2.out.fr hF6 (by simp)).cell 1 rfl
        have p2 : W6.cell? ⟨w.heap.size + 1, 2, none⟩ = some (.slice AT t.slots.length cT) := (HB2.out.fr hF6 (by simp)).cell 2 rfl
        have x0 : W6.cell? ⟨w6.heap.size, 0, none⟩ = some (.bool true) := hQ.cell 0 rfl
        have x1 : W6.cell? ⟨w6.heap.size, 1, none⟩ = some (.int .i64 r.kind) := hQ.cell 1 rfl
        have x2 : W6.cell? ⟨w6.heap.size, 2, none⟩ = some (.string r.text) := hQ.cell 2 rfl
        have x3 : W6.cell? ⟨w6.heap.size, 3, none⟩ = some (.slice A6 r.slots.length c6) := hQ.cell 3 rfl
        rw [hW6] at q0 p0 p1 p2 x0 x1 x2 x3
        have HW6 := Lib.hid hW6.symm
        clear hW6 hf6
        go_wp2_with fail
        rw [HW6.out]
        clear HW6 q0 p0 p1 p2 x0 x1 x2 x3
        refine (refPrint_any A c g L 1024 r _ _ _ (ha.fr0 hFr6) hL ⟨A6, c6, rfl, hX⟩ hrn).mono ?_
        rw [hpr.out]
        rintro e w7 ⟨rfl, hf7⟩
        have hX := hX.fr0 hf7
        have hQ := hQ.fr hf7 (by simp)
        have hF7 := hF6.trans hf7
        have hFr7 := hFr6.trans hf7
        have q0 : w7.cell? ⟨w.heap.size, 0, none⟩ = some (.slice A g.length c) := (HB1.out.fr hF7 (by simp)).cell 0 rfl
        have p0 : w7.cell? ⟨w.heap.size + 1, 0, none⟩ = some (.int .i64 t.kind) := (HB2.out.fr hF7 (by simp)).cell 0 rfl
        have p1 : w7.cell? ⟨w.heap.size + 1, 1, none⟩ = some (.string t.text) := (HB2.out.fr hF7 (by simp)).cell 1 rfl
        have p2 : w7.cell? ⟨w.heap.size + 1, 2, none⟩ = some (.slice AT t.slots.length cT) := (HB2.out.fr hF7 (by simp)).cell 2 rfl
        have e0 : w7.cell? ⟨w.heap.size + 2, 0, none⟩ = some (.slice N o.need.length nn) := (HB3.out.fr hF7 (by simp)).cell 0 rfl
        have e1 : w7.cell? ⟨w.heap.size + 2, 1, none⟩ = some (.slice B o.bar.length b) := (HB3.out.fr hF7 (by simp)).cell 1 rfl
        have e2 : w7.cell? ⟨w.heap.size + 2, 2, none⟩ = some (.int .u64 o.salt) := (HB3.out.fr hF7 (by simp)).cell 2 rfl
        have e3 : w7.cell? ⟨w.heap.size + 2, 3, none⟩ = some (.int .u8 o.loose) := (HB3.out.fr hF7 (by simp)).cell 3 rfl
        have x0 : w7.cell? ⟨w6.heap.size, 0, none⟩ = some (.bool true) := hQ.cell 0 rfl
        have x1 : w7.cell? ⟨w6.heap.size, 1, none⟩ = some (.int .i64 r.kind) := hQ.cell 1 rfl
        have x2 : w7.cell? ⟨w6.heap.size, 2, none⟩ = some (.string r.text) := hQ.cell 2 rfl
        have x3 : w7.cell? ⟨w6.heap.size, 3, none⟩ = some (.slice A6 r.slots.length c6) := hQ.cell 3 rfl
        clear hf7 hF6 hFr6 hf6' hQ
        go_wp2_with fail
        refine wp_region_held_drew (S := fun w' => w'.cell? ⟨w.heap.size, 0, none⟩ = some (.slice A g.length c) ∧ w'.cell? ⟨w.heap.size + 1, 0, none⟩ = some (.int .i64 t.kind) ∧ w'.cell? ⟨w.heap.size + 1, 1, none⟩ = some (.string t.text) ∧ w'.cell? ⟨w.heap.size + 1, 2, none⟩ = some (.slice AT t.slots.length cT) ∧ w'.cell? ⟨w.heap.size + 2, 0, none⟩ = some (.slice N o.need.length nn) ∧ w'.cell? ⟨w.heap.size + 2, 1, none⟩ = some (.slice B o.bar.length b) ∧ w'.cell? ⟨w.heap.size + 2, 2, none⟩ = some (.int .u64 o.salt) ∧ w'.cell? ⟨w.heap.size + 2, 3, none⟩ = some (.int .u8 o.loose) ∧ w'.cell? ⟨w6.heap.size, 1, none⟩ = some (.int .i64 r.kind) ∧ w'.cell? ⟨w6.heap.size, 2, none⟩ = some (.string r.text) ∧ w'.cell? ⟨w6.heap.size, 3, none⟩ = some (.slice A6 r.slots.length c6)) (by kernel_rfl) ⟨q0, p0, p1, p2, e0, e1, e2, e3, x1, x2, x3⟩ (fun hHeld => ?_)
        refine wpAnyH_take (i := 0) (v := .pointer (some ⟨w6.heap.size, 1, none⟩)) rfl (by kernel_rfl) (by kernel_rfl) (by kernel_rfl) (fun _ _ _ h => h) (Or.inl ⟨by rfl, fun w hSw => ?_⟩) (by assumption) ?_
        ·(try dsimp only at hSw); go_simp
        try simp only [List.getElem_toArray, List.getElem_cons_succ, List.getElem_cons_zero, Act.put, List.setIfInBounds_toArray, List.set_cons_zero, List.set_cons_succ]
        refine wpAnyH_take (i := 1) (v := .agg #[.int .i64 r.kind, .string r.text, .slice A6 r.slots.length c6]) rfl (by kernel_rfl) (by kernel_rfl) (by kernel_rfl) (fun _ _ _ h => h) (Or.inl ⟨by rfl, fun w hSw => ?_⟩) (by assumption) ?_
        ·(try dsimp only at hSw); go_simp
        try simp only [List.getElem_toArray, List.getElem_cons_succ, List.getElem_cons_zero, Act.put, List.setIfInBounds_toArray, List.set_cons_zero, List.set_cons_succ]
        refine wpAnyH_take (i := 3) (v := .agg #[.int .i64 t.kind, .string t.text, .slice AT t.slots.length cT]) rfl (by kernel_rfl) (by kernel_rfl) (by kernel_rfl) (fun _ _ _ h => h) (Or.inl ⟨by rfl, fun w hSw => ?_⟩) (by assumption) ?_
        ·(try dsimp only at hSw); go_simp
        try simp only [List.getElem_toArray, List.getElem_cons_succ, List.getElem_cons_zero, Act.put, List.setIfInBounds_toArray, List.set_cons_zero, List.set_cons_succ]
        refine wpAnyH_ready (rs := [2]) (by kernel_rfl) (by simp) ?_
        refine AllReadyH.cons rfl (fun K hK => ?_) AllReadyH.nil
        go_simp
        refine (refNodes_any 1024 r _ (fun _ => False) _ ⟨A6, c6, rfl, hX.fr0 frx⟩ hrn3).mono ?_
        rintro e wa ⟨rfl, hfa⟩
        have hFa : Fr [] w7 wa := (Fr.trans frx hfa)
        refine hK.out _ _ (⟨hFa.cell q0 (by simp), hFa.cell p0 (by simp), hFa.cell p1 (by simp), hFa.cell p2 (by simp), hFa.cell e0 (by simp), hFa.cell e1 (by simp), hFa.cell e2 (by simp), hFa.cell e3 (by simp), hFa.cell x1 (by simp), hFa.cell x2 (by simp), hFa.cell x3 (by simp)⟩) (fun hHeld2 => ?_)
        clear hK K hHeld
        have hHeld := hHeld2
        clear hHeld2
        try simp only [Act.put, List.setIfInBounds_toArray, List.set_cons_zero, List.set_cons_succ]
        refine wpAnyH_ready (rs := [4]) (by kernel_rfl) (by simp) ?_
        refine AllReadyH.cons rfl (fun K hK => ?_) AllReadyH.nil
        go_simp
        refine (refNodes_any n t _ S _ ⟨AT, cT, rfl, hR.fr0 (Fr.trans hFr7 frx)⟩ htn3).mono ?_
        rintro e wb ⟨rfl, hfb⟩
        have hFb : Fr [] w7 wb := (Fr.trans frx hfb)
        refine hK.out _ _ (⟨hFb.cell q0 (by simp), hFb.cell p0 (by simp), hFb.cell p1 (by simp), hFb.cell p2 (by simp), hFb.cell e0 (by simp), hFb.cell e1 (by simp), hFb.cell e2 (by simp), hFb.cell e3 (by simp), hFb.cell x1 (by simp), hFb.cell x2 (by simp), hFb.cell x3 (by simp)⟩) (fun hHeld2 => ?_)
        clear hK K hHeld
        have hHeld := hHeld2
        clear hHeld2
        try simp only [Act.put, List.setIfInBounds_toArray, List.set_cons_zero, List.set_cons_succ]
        refine wpAnyH_take (i := 5) (v := .bool true) rfl (by kernel_rfl) (by kernel_rfl) (by kernel_rfl) (fun _ _ _ h => h) (Or.inl ⟨by rfl, fun w hSw => ?_⟩) (by assumption) ?_
        ·(try dsimp only at hSw); go_simp
        try simp only [List.getElem_toArray, List.getElem_cons_succ, List.getElem_cons_zero, Act.put, List.setIfInBounds_toArray, List.set_cons_zero, List.set_cons_succ]
        refine wpAnyH_take (i := 6) (v := .bool true) rfl (by kernel_rfl) (by kernel_rfl) (by kernel_rfl) (fun _ _ _ h => h) (Or.inl ⟨by rfl, fun w hSw => ?_⟩) (by assumption) ?_
        ·(try dsimp only at hSw); go_simp
        try simp only [List.getElem_toArray, List.getElem_cons_succ, List.getElem_cons_zero, Act.put, List.setIfInBounds_toArray, List.set_cons_zero, List.set_cons_succ]
        refine wpAnyH_take (i := 7) (v := .agg #[.slice N o.need.length nn, .slice B o.bar.length b, .int .u64 o.salt, .int .u8 o.loose]) rfl (by kernel_rfl) (by kernel_rfl) (by kernel_rfl) (fun _ _ _ h => h) (Or.inl ⟨by rfl, fun w hSw => ?_⟩) (by assumption) ?_
        ·(try dsimp only at hSw); go_simp
        try simp only [List.getElem_toArray, List.getElem_cons_succ, List.getElem_cons_zero, Act.put, List.setIfInBounds_toArray, List.set_cons_zero, List.set_cons_succ]
        refine wpAnyH_take (i := 8) (v := .string (tx (textL g r))) rfl (by kernel_rfl) (by kernel_rfl) (by kernel_rfl) (fun _ _ _ h => h) (Or.inl ⟨by rfl, fun w hSw => ?_⟩) (by assumption) ?_
        ·(try dsimp only at hSw); go_simp
        try simp only [List.getElem_toArray, List.getElem_cons_succ, List.getElem_cons_zero, Act.put, List.setIfInBounds_toArray, List.set_cons_zero, List.set_cons_succ]
        refine wpAnyH_ready (rs := [9]) (by kernel_rfl) (by simp) ?_
        refine AllReadyH.cons rfl (fun K hK => ?_) AllReadyH.nil
        go_simp
        refine (SayText_any _ o (textL g r) _ (HOV.out.fr0 (Fr.trans hFr7 frx)) HG.out htl).mono ?_
        rw [HSY.out]
        rintro e wc ⟨rfl, hfc⟩
        have hFc : Fr [] w7 wc := (Fr.trans frx hfc)
        refine hK.out _ _ (⟨hFc.cell q0 (by simp), hFc.cell p0 (by simp), hFc.cell p1 (by simp), hFc.cell p2 (by simp), hFc.cell e0 (by simp), hFc.cell e1 (by simp), hFc.cell e2 (by simp), hFc.cell e3 (by simp), hFc.cell x1 (by simp), hFc.cell x2 (by simp), hFc.cell x3 (by simp)⟩) (fun hHeld2 => ?_)
        clear hK K hHeld
        have hHeld := hHeld2
        clear hHeld2
        try simp only [Act.put, List.setIfInBounds_toArray, List.set_cons_zero, List.set_cons_succ]
        refine wpAnyH_take (i := 10) (v := .bool true) rfl (by kernel_rfl) (by kernel_rfl) (by kernel_rfl) (fun _ _ _ h => h) (Or.inl ⟨by rfl, fun w hSw => ?_⟩) (by assumption) ?_
        ·(try dsimp only at hSw); go_simp
        try simp only [List.getElem_toArray, List.getElem_cons_succ, List.getElem_cons_zero, Act.put, List.setIfInBounds_toArray, List.set_cons_zero, List.set_cons_succ]
        refine wpAnyH_take (i := 11) (v := .bool true) rfl (by kernel_rfl) (by kernel_rfl) (by kernel_rfl) (fun _ _ _ h => h) (Or.inl ⟨by rfl, fun w hSw => ?_⟩) (by assumption) ?_
        ·(try dsimp only at hSw); go_simp
        try simp only [List.getElem_toArray, List.getElem_cons_succ, List.getElem_cons_zero, Act.put, List.setIfInBounds_toArray, List.set_cons_zero, List.set_cons_succ]
        refine wpAnyH_take (i := 12) (v := .bool true) rfl (by kernel_rfl) (by kernel_rfl) (by kernel_rfl) (fun _ _ _ h => h) (Or.inl ⟨by rfl, fun w hSw => ?_⟩) (by assumption) ?_
        ·(try dsimp only at hSw); go_simp
        try simp only [List.getElem_toArray, List.getElem_cons_succ, List.getElem_cons_zero, Act.put, List.setIfInBounds_toArray, List.set_cons_zero, List.set_cons_succ]
        refine wpAnyH_take (i := 13) (v := .agg #[.slice A g.length c]) rfl (by kernel_rfl) (by kernel_rfl) (by kernel_rfl) (fun _ _ _ h => h) (Or.inl ⟨by rfl, fun w hSw => ?_⟩) (by assumption) ?_
        ·(try dsimp only at hSw); go_simp
        try simp only [List.getElem_toArray, List.getElem_cons_succ, List.getElem_cons_zero, Act.put, List.setIfInBounds_toArray, List.set_cons_zero, List.set_cons_succ]
        refine wpAnyH_take (i := 14) (v := .pointer (some ⟨w6.heap.size, 1, none⟩)) rfl (by kernel_rfl) (by kernel_rfl) (by kernel_rfl) (fun _ _ _ h => h) (Or.inl ⟨by rfl, fun w hSw => ?_⟩) (by assumption) ?_
        ·(try dsimp only at hSw); go_simp
        try simp only [List.getElem_toArray, List.getElem_cons_succ, List.getElem_cons_zero, Act.put, List.setIfInBounds_toArray, List.set_cons_zero, List.set_cons_succ]
        refine wpAnyH_take (i := 15) (v := .agg #[.int .i64 r.kind, .string r.text, .slice A6 r.slots.length c6]) rfl (by kernel_rfl) (by kernel_rfl) (by kernel_rfl) (fun _ _ _ h => h) (Or.inl ⟨by rfl, fun w hSw => ?_⟩) (by assumption) ?_
        ·(try dsimp only at hSw); go_simp
        try simp only [List.getElem_toArray, List.getElem_cons_succ, List.getElem_cons_zero, Act.put, List.setIfInBounds_toArray, List.set_cons_zero, List.set_cons_succ]
        refine wpAnyH_take (i := 16) (v := .agg #[.slice N o.need.length nn, .slice B o.bar.length b, .int .u64 o.salt, .int .u8 o.loose]) rfl (by kernel_rfl) (by kernel_rfl) (by kernel_rfl) (fun _ _ _ h => h) (Or.inl ⟨by rfl, fun w hSw => ?_⟩) (by assumption) ?_
        ·(try dsimp only at hSw); go_simp
        try simp only [List.getElem_toArray, List.getElem_cons_succ, List.getElem_cons_zero, Act.put, List.setIfInBounds_toArray, List.set_cons_zero, List.set_cons_succ]
        refine wpAnyH_ready (rs := [17]) (by kernel_rfl) (by simp) ?_
        refine AllReadyH.cons rfl (fun K hK => ?_) AllReadyH.nil
        go_simp
        refine (bare_any A A6 c c6 g L 1024 r (fun _ => False) _ o _ (ha.fr0 (Fr.trans hFr7 frx)) hL (hX.fr0 frx) hrn2 (HOV.out.fr0 (Fr.trans hFr7 frx)) HG.out HBP.out HBH.out).mono ?_
        rintro e wd ⟨rfl, hfd⟩
        have hFd : Fr [] w7 wd := (Fr.trans frx hfd)
        refine hK.out _ _ (⟨hFd.cell q0 (by simp), hFd.cell p0 (by simp), hFd.cell p1 (by simp), hFd.cell p2 (by simp), hFd.cell e0 (by simp), hFd.cell e1 (by simp), hFd.cell e2 (by simp), hFd.cell e3 (by simp), hFd.cell x1 (by simp), hFd.cell x2 (by simp), hFd.cell x3 (by simp)⟩) (fun hHeld2 => ?_)
        clear hK K hHeld
        have hHeld := hHeld2
        clear hHeld2
        try simp only [Act.put, List.setIfInBounds_toArray, List.set_cons_zero, List.set_cons_succ]
        refine wpAnyH_take (i := 18) (v := .bool true) rfl (by kernel_rfl) (by kernel_rfl) (by kernel_rfl) (fun _ _ _ h => h) (Or.inl ⟨by rfl, fun w hSw => ?_⟩) (by assumption) ?_
        ·(try dsimp only at hSw); go_simp
        try simp only [List.getElem_toArray, List.getElem_cons_succ, List.getElem_cons_zero, Act.put, List.setIfInBounds_toArray, List.set_cons_zero, List.set_cons_succ]
        refine wpAnyH_take (i := 19) (v := .bool true) rfl (by kernel_rfl) (by kernel_rfl) (by kernel_rfl) (fun _ _ _ h => h) (Or.inl ⟨by rfl, fun w hSw => ?_⟩) (by assumption) ?_
        ·(try dsimp only at hSw); go_simp
        try simp only [List.getElem_toArray, List.getElem_cons_succ, List.getElem_cons_zero, Act.put, List.setIfInBounds_toArray, List.set_cons_zero, List.set_cons_succ]
        refine wpAnyH_ready (rs := [20]) (by kernel_rfl) (by simp) ?_
        refine AllReadyH.cons rfl (fun K hK => ?_) AllReadyH.nil
        go_simp
        refine (grows_any _ (htab2.out.fr (Fr.trans hFr7 frx))).mono ?_
        rintro e we ⟨rfl, hfe⟩
        have hFe : Fr [] w7 we := (Fr.trans frx hfe)
        refine hK.out _ _ (⟨hFe.cell q0 (by simp), hFe.cell p0 (by simp), hFe.cell p1 (by simp), hFe.cell p2 (by simp), hFe.cell e0 (by simp), hFe.cell e1 (by simp), hFe.cell e2 (by simp), hFe.cell e3 (by simp), hFe.cell x1 (by simp), hFe.cell x2 (by simp), hFe.cell x3 (by simp)⟩) (fun hHeld2 => ?_)
        clear hK K hHeld
        have hHeld := hHeld2
        clear hHeld2
        try simp only [Act.put, List.setIfInBounds_toArray, List.set_cons_zero, List.set_cons_succ]
        refine wpAnyH_take (i := 21) (v := .bool true) rfl (by kernel_rfl) (by kernel_rfl) (by kernel_rfl) (fun _ _ _ h => h) (Or.inl ⟨by rfl, fun w hSw => ?_⟩) (by assumption) ?_
        ·(try dsimp only at hSw); go_simp
        try simp only [List.getElem_toArray, List.getElem_cons_succ, List.getElem_cons_zero, Act.put, List.setIfInBounds_toArray, List.set_cons_zero, List.set_cons_succ]
        refine wpAnyH_take (i := 22) (v := .bool true) rfl (by kernel_rfl) (by kernel_rfl) (by kernel_rfl) (fun _ _ _ h => h) (Or.inl ⟨by rfl, fun w hSw => ?_⟩) (by assumption) ?_
        ·(try dsimp only at hSw); go_simp
        try simp only [List.getElem_toArray, List.getElem_cons_succ, List.getElem_cons_zero, Act.put, List.setIfInBounds_toArray, List.set_cons_zero, List.set_cons_succ]
        refine wpAnyH_done (by kernel_rfl) ?_ _
        clear hHeld q0 p0 p1 p2 e0 e1 e2 e3 x0 x1 x2 x3
        go_wp2_with fail
        go_ret
        exact ⟨rfl, hFr7.trans hFe⟩
       ·have h1' : ks.length = 1 := by rw [hall, List.length_map]; exact h1
        have hpr : Hid (printOf g L t = (textL g t, 0)) := printOf_ok HCK.out
        have htl : (textL g t).length ≤ 1000000 := (chkT_text HCK.out).2
        have hsb : (sayT o (textL g t) != 2) = true := by simpa using h2
        have hl1 : ((ks.length : Int) == 1) = true := by simp [h1']
        have hl1' : (ks.length == 1) = true := by simp [h1']
        have htn : t.nodes ≤ 1024 := by omega
        rw [← hall] at hres
        rw [hres] at HSC
        clear hres h2 hall hks HAT HEND HND h1 h1'
        go_wp2_with fail
        refine (HSC.out _ (ha.fr0 hFr) (hR.fr0 hFr) hr5).mono ?_
        rintro e w6 ⟨A6, c6, rfl, hf6, hX⟩
        clear q0 p0 p1 p2
        obtain ⟨W6, hW6⟩ : ∃ W6, W6 = w6.alloc (.cells #[.bool false, .int .i64 zeroT.kind, .string zeroT.text, .slice A6 zeroT.slots.length c6] 41) := ⟨_, rfl⟩
        have hf6' : Fr [] wr W6 := by rw [hW6]; exact hf6.alloc _
        have hQ : Blk W6 w6.heap.size 41 #[.bool false, .int .i64 zeroT.kind, .string zeroT.text, .slice A6 zeroT.slots.length c6] := by rw [hW6]; exact Blk.new _ _ _ _ rfl
        have hX : RH (fun _ => False) 1024 W6 A6 c6 zeroT := by rw [hW6]; exact (hX.sub (S' := fun _ => False) fun _ _ h => h.elim).fr0 ((Fr.refl _ _).alloc _)
        have hF6 := hF5.trans hf6'
        have hFr6 := hFr.trans hf6'
        have q0 : W6.cell? ⟨w.heap.size, 0, none⟩ = some (.slice A g.length c) := (HB1.out.fr hF6 (by simp)).cell 0 rfl
        have p0 : W6.cell? ⟨w.heap.size + 1, 0, none⟩ = some (.int .i64 t.kind) := (HB2.out.fr hF6 (by simp)).cell 0 rfl
        have p1 : W6.cell? ⟨w.heap.size + 1, 1, none⟩ = some (.string t.text) := (HB2.out.fr hF6 (by simp)).cell 1 rfl
        have p2 : W6.cell? ⟨w.heap.size + 1, 2, none⟩ = some (.slice AT t.slots.length cT) := (HB2.out.fr hF6 (by simp)).cell 2 rfl
        have x0 : W6.cell? ⟨w6.heap.size, 0, none⟩ = some (.bool false) := hQ.cell 0 rfl
        have x1 : W6.cell? ⟨w6.heap.size, 1, none⟩ = some (.int .i64 zeroT.kind) := hQ.cell 1 rfl
        have x2 : W6.cell? ⟨w6.heap.size, 2, none⟩ = some (.string zeroT.text) := hQ.cell 2 rfl
        have x3 : W6.cell? ⟨w6.heap.size, 3, none⟩ = some (.slice A6 zeroT.slots.length c6) := hQ.cell 3 rfl
        rw [hW6] at q0 p0 p1 p2 x0 x1 x2 x3
        have HW6 := Lib.hid hW6.symm
        clear hW6 hf6
        go_wp2_with fail
        rw [HW6.out]
        clear HW6 q0 p0 p1 p2 x0 x1 x2 x3
        refine (refPrint_any A c g L n t _ S _ (ha.fr0 hFr6) hL ⟨AT, cT, rfl, hR.fr0 hFr6⟩ htn).mono ?_
        rw [hpr.out]
        rintro e w7 ⟨rfl, hf7⟩
        have hF7 := hF6.trans hf7
        have hFr7 := hFr6.trans hf7
        have e0 : w7.cell? ⟨w.heap.size + 2, 0, none⟩ = some (.slice N o.need.length nn) := (HB3.out.fr hF7 (by simp)).cell 0 rfl
        have e1 : w7.cell? ⟨w.heap.size + 2, 1, none⟩ = some (.slice B o.bar.length b) := (HB3.out.fr hF7 (by simp)).cell 1 rfl
        have e2 : w7.cell? ⟨w.heap.size + 2, 2, none⟩ = some (.int .u64 o.salt) := (HB3.out.fr hF7 (by simp)).cell 2 rfl
        have e3 : w7.cell? ⟨w.heap.size + 2, 3, none⟩ = some (.int .u8 o.loose) := (HB3.out.fr hF7 (by simp)).cell 3 rfl
        go_wp2_with fail
        refine (SayText_any _ o (textL g t) _ (HOV.out.fr0 hFr7) HG.out htl).mono ?_
        rintro e w8 ⟨rfl, hf8⟩
        go_wp2_with fail
        refine (grows_any _ (htab2.out.fr (hFr7.trans hf8))).mono ?_
        rintro e w9 ⟨rfl, hf9⟩
        go_wp2_with fail
        go_ret
        exact ⟨rfl, (hFr7.trans hf8).trans hf9⟩
      ·obtain ⟨hres, hqo⟩ := HAT.out _ _ hq
       rw [← hks.out] at hres
       rw [hres] at HSC
       have hqk := chk_small HCG.out hqo.val hqo.few
       have hpr : Hid (printOf g L q = (textL g q, 0)) := printOf_ok hqk
       have htl : (textL g q).length ≤ 1000000 := (chkT_text hqk).2
       have hqf := hqo.few
       have hqn : q.nodes ≤ 1024 := by omega
       have hlt2 : ks.length < QT.length := (List.getElem?_eq_some_iff.1 hq).1
       have HTQ : Hid ((QT.map (textL g))[ks.length]? = some (textL g q)) := by show _ = _; rw [List.getElem?_map, hq]; rfl
       have HNE : Hid (∀ (i : Nat) (x : Bs), ks[i]? = some x → x ≠ textL g q) := by
        show ∀ _ _, _ → _
        intro i x hi hx
        have hil : i < ks.length := (List.getElem?_eq_some_iff.1 hi).1
        rw [hks.out, List.getElem?_take, if_pos hil, hx, ← HTQ.out] at hi
        have := (List.getElem?_inj (by rw [List.length_map]; omega) HND.out).1 hi
        omega
       clear hres hqo hqk hqf hq HAT HEND HND HGG HCG HCK
       go_wp2_with fail
       refine (HSC.out _ (ha.fr0 hFr) (hR.fr0 hFr) hr5).mono ?_
       rintro e w6 ⟨A6, c6, rfl, hf6, hX⟩
       clear q0 p0 p1 p2
       obtain ⟨W6, hW6⟩ : ∃ W6, W6 = w6.alloc (.cells #[.bool false, .int .i64 q.kind, .string q.text, .slice A6 q.slots.length c6] 41) := ⟨_, rfl⟩
       have hf6' : Fr [] wr W6 := by rw [hW6]; exact hf6.alloc _
       have hQ : Blk W6 w6.heap.size 41 #[.bool false, .int .i64 q.kind, .string q.text, .slice A6 q.slots.length c6] := by rw [hW6]; exact Blk.new _ _ _ _ rfl
       have hX : RH (fun _ => False) 1024 W6 A6 c6 q := by rw [hW6]; exact (hX.sub (S' := fun _ => False) fun _ _ h => h.elim).fr0 ((Fr.refl _ _).alloc _)
       have hF6 := hF5.trans hf6'
       have hFr6 := hFr.trans hf6'
       have q0 : W6.cell? ⟨w.heap.size, 0, none⟩ = some (.slice A g.length c) := (HB1.out.fr hF6 (by simp)).cell 0 rfl
       have p0 : W6.cell? ⟨w.heap.size + 1, 0, none⟩ = some (.int .i64 t.kind) := (HB2.out.fr hF6 (by simp)).cell 0 rfl
       have p1 : W6.cell? ⟨w.heap.size + 1, 1, none⟩ = some (.string t.text) := (HB2.out.fr hF6 (by simp)).cell 1 rfl
       have p2 : W6.cell? ⟨w.heap.size + 1, 2, none⟩ = some (.slice AT t.slots.length cT) := (HB2.out.fr hF6 (by simp)).cell 2 rfl
       have x0 : W6.cell? ⟨w6.heap.size, 0, none⟩ = some (.bool false) := hQ.cell 0 rfl
       have x1 : W6.cell? ⟨w6.heap.size, 1, none⟩ = some (.int .i64 q.kind) := hQ.cell 1 rfl
       have x2 : W6.cell? ⟨w6.heap.size, 2, none⟩ = some (.string q.text) := hQ.cell 2 rfl
       have x3 : W6.cell? ⟨w6.heap.size, 3, none⟩ = some (.slice A6 q.slots.length c6) := hQ.cell 3 rfl
       rw [hW6] at q0 p0 p1 p2 x0 x1 x2 x3
       have HW6 := Lib.hid hW6.symm
       clear hW6 hf6
       go_wp2_with fail
       rw [HW6.out]
       clear HW6 HSC q0 p0 p1 p2 x0 x1 x2 x3
       refine (refPrint_any A c g L 1024 q _ _ _ (ha.fr0 hFr6) hL ⟨A6, c6, rfl, hX⟩ hqn).mono ?_
       rw [hpr.out]
       rintro e w7 ⟨rfl, hf7⟩
       have hQ := hQ.fr hf7 (by simp)
       have hF7 := hF6.trans hf7
       have hf67 := hf6'.trans hf7
       have ho7 := own_fr ho5 hf67 (by simp)
       have hp7 := own_fr hp5 hf67 (by simp)
       have x0 : w7.cell? ⟨w6.heap.size, 0, none⟩ = some (.bool false) := hQ.cell 0 rfl
       clear hf7 hF6 hFr6 hf6' hQ hX hr5 ho5 hp5 hf67 hFr hF5
       have hR7 : Rd w7 encTx B5 d5 ks := own_rd hp7 rfl rfl
       have hk4 := hR7.bound
       go_wp2_with fail
       clear x0
       go_loopw [15] (fun iv wr => ∃ i : Nat, i ≤ ks.length ∧ iv = .int .i64 i ∧ Fr [] w7 wr) (fun i _ => ks.length - (intOf i).toNat)
       case atStart => exact ⟨0, Nat.zero_le _, rfl, Fr.refl _ _⟩
       case round =>
        obtain ⟨i, hi, rfl, hf⟩ := hrel
        by_cases hlt : i < ks.length
        ·obtain ⟨b7, o7, x, rfl, hx, hc7⟩ := (hR7.fr0 hf).at_ hlt
         have hxe : wr.cell? ⟨b7, o7 + i, none⟩ = some (.string (tx x)) := hc7
         have hne : ((tx x).toList == (tx (textL g q)).toList) = false := tx_ne (HNE.out i x hx.out)
         clear hc7
         go_wp2_with fail
         go_roundw
         case rel => exact ⟨i + 1, by omega, by go_num, hf⟩
         case measure => simp [intOf]; omega
        ·have hF8 := hF7.trans hf
         have hp8 := own_fr hp7 hf (by simp)
         have ho8 := own_fr ho7 hf (by simp)
         have hws := hF8.size
         have HP8 := Lib.hid (hp8.alloc (.cells #[.string (tx (textL g q))] 9))
         have HO8 := Lib.hid (ho8.alloc (.cells #[.string (tx (textL g q))] 9))
         have HR8 := Lib.hid (Rd.one wr 9 encTx (textL g q))
         clear ho8 hp8 hp7 ho7 hR7 hQ
         have hbB : (ks.length + [textL g q].length) * 16 ≤ 140737488355328 := by simp; omega
         have hbW : w4.heap.size ≤ (wr.alloc (.cells #[.string (tx (textL g q))] 9)).heap.size := Nat.le_trans hws (by simp)
         go_wp2_with (at_builtin; refine wpList_append_rd rfl (.tmp 114) (.tmp 116) _ rfl elemSt (.slice B5 ks.length d5) (ks.map encTx) rfl HP8.out (some ⟨wr.heap.size, 0, none⟩) 1 [textL g q] encTx rfl HR8.out one_tx hbB hbW ?_; intro B9 d9 w9 hp9 hg9 hat9; have hF9 : Fr [] w4 w9 := (hF8.alloc _).app HP8.out (Nat.le_refl _) hg9; have ho9 := own_kept2 HO8.out HP8.out (by decide) hg9; have hFr9 := HF4.out.trans hF9; have e0 : w9.cell? ⟨w.heap.size + 2, 0, none⟩ = some (.slice N o.need.length nn) := (HB3.out.fr hF9 (by simp)).cell 0 rfl; have e1 : w9.cell? ⟨w.heap.size + 2, 1, none⟩ = some (.slice B o.bar.length b) := (HB3.out.fr hF9 (by simp)).cell 1 rfl; have e2 : w9.cell? ⟨w.heap.size + 2, 2, none⟩ = some (.int .u64 o.salt) := (HB3.out.fr hF9 (by simp)).cell 2 rfl; have e3 : w9.cell? ⟨w.heap.size + 2, 3, none⟩ = some (.int .u8 o.loose) := (HB3.out.fr hF9 (by simp)).cell 3 rfl)
         clear HP8 HO8 HR8 hg9 hat9 hF8 hbB hbW hf
         refine (SayText_any _ o (textL g q) _ (HOV.out.fr0 hFr9) HG.out htl).mono ?_
         rintro e w10 ⟨rfl, hf10⟩
         have hp10 := own_fr hp9 hf10 (by simp)
         have ho10 := own_fr ho9 hf10 (by simp)
         have hF10 := hF9.trans hf10
         have hws := hF10.size
         obtain ⟨sq, hsq⟩ : ∃ sq, sq = sayT o (textL g q) := ⟨_, rfl⟩
         rw [← hsq]
         have HSQ := Lib.hid hsq
         have HP10 := Lib.hid (hp10.alloc (.cells #[.int .u8 sq] 46))
         have HO10 := Lib.hid (ho10.alloc (.cells #[.int .u8 sq] 46))
         have HR10 := Lib.hid (Rd.one w10 46 (.int .u8) sq)
         clear hsq ho10 hp10 ho9 hp9 e0 e1 e2 e3 hF9 hFr9 hf10
         have hbB : (ks.length + [sq].length) * 1 ≤ 140737488355328 := by simp; omega
         have hbW : w4.heap.size ≤ (w10.alloc (.cells #[.int .u8 sq] 46)).heap.size := Nat.le_trans hws (by simp)
         go_wp2_with (at_builtin; refine wpList_append_rd rfl (.tmp 118) (.tmp 122) _ rfl elemVe (.slice A5 ks.length c5) ((ks.map (sayT o)).map (.int .u8)) rfl HO10.out (some ⟨w10.heap.size, 0, none⟩) 1 [sq] (.int .u8) rfl HR10.out one_u8 hbB hbW ?_; intro A11 c11 w11 ho11 hg11 hat11)
         go_roundg m
         case measure => omega
         case rel =>
          have hF11 : Fr [] w4 w11 := (hF10.alloc _).app HO10.out (Nat.le_refl _) hg11
          have hp11 := own_kept2 HP10.out HO10.out (by decide) hg11
          rw [HSQ.out] at ho11
          exact ⟨ks ++ [textL g q], A11, c11, B9, d9, tm_next hks HTQ, by simp; omega, by simp; omega, by simp, by simp, by simpa using ho11, by simpa using hp11, hF11⟩
    ·have d14 : decide ((14 : Int) < (t.nodes : Int)) = true := by simp; omega
     go_wp2_with fail
     refine (grows_any _ (htab2.out.fr hF4)).mono ?_
     rintro e w5 ⟨rfl, hf5⟩
     go_wp2_with fail
     go_ret
     exact ⟨rfl, hF4.trans hf5⟩
   ·have dck : (chkT g L t != 0) = true := by simpa using hck
    go_wp2_with fail
    refine (grows_any _ (htab2.out.fr hF3)).mono ?_
    rintro e w5 ⟨rfl, hf5⟩
    go_wp2_with fail
    go_ret
    exact ⟨rfl, hF3.trans hf5⟩
  ·rw [hg] at hgc
   clear hg
   go_wp2_with fail
   refine hgc.mono ?_
   rintro e w2 ⟨rfl, hf2⟩
   have hF2 := hF1.trans hf2
   go_wp2_with fail
   refine (grows_any _ (htab2.out.fr hF2)).mono ?_
   rintro e w5 ⟨rfl, hf5⟩
   go_wp2_with fail
   go_ret
   exact ⟨rfl, hF2.trans hf5⟩
 ·go_wp2_with fail
  refine (grows_any _ (htab2.out.fr hF1)).mono ?_
  rintro e w2 ⟨rfl, hf2⟩
  go_wp2_with fail
  go_ret
  exact ⟨rfl, hF1.trans hf2⟩
end

end Go.Proofs.YtippadnbngcjlaaGreatDoor
