/- Texts of this seat, one behind the other: RBis, Siz, ChoM, Cho, RSiz, SizN. -/
import Derived.Test.YtippadnbngcjlaaGreatDoorh13
import Derived.Deep.LoopGhost
namespace Go.Proofs.YtippadnbngcjlaaGreatDoor
set_option linter.unusedVariables false

/- The reference's Bisect. -/
section
open Go.RowKit
def kn0 : Int → Bool := fun _ => false
end

/- sizes of the program. -/
section
open Go.RowKit
def IntAt (w : World) (g : Nat) (xs : List Int) : Prop := Blk w g 3 (xs.map (Value.int .i64)).toArray
section
variable {w w' : World} {g : Nat} {xs : List Int}
theorem IntAt.cell (h : IntAt w g xs) {k : Nat} {x : Int} (hx : xs[k]? = some x) : w.cell? ⟨g, k, none⟩ = some (.int .i64 x) ∧ w.frozen? ⟨g, k, none⟩ = false := ⟨Blk.cell h k (by simp [hx]), Blk.frozen h k⟩
theorem IntAt.set_ (h : IntAt w g xs) (k : Nat) (y : Int) : IntAt (w.setCell ⟨g, k, none⟩ (.int .i64 y)) g (xs.set k y) := by
 have := Blk.set_ h k (.int .i64 y)
 unfold IntAt
 rw [List.map_set]
 simpa using this
theorem IntAt.fr0 (h : IntAt w g xs) (hf : Fr [] w w') : IntAt w' g xs := Blk.fr h hf (by simp)
theorem IntAt.rd (h : IntAt w g xs) (hm : xs.length ≤ maxLen) : Rd w (.int .i64) (some ⟨g, 0, none⟩) xs.length xs := Rd.of_blk h hm
end
def RetI (w : World) (L : List Int) (e : Ending) (w' : World) : Prop := ∃ A c, e = .returned (.slice A L.length c) ∧ Fr [] w w' ∧ Rd w' (.int .i64) A c L
theorem fill_set (n k : Nat) (M z : Int) (h : k < n) : (List.replicate k M ++ List.replicate (n - k) z).set k M = List.replicate (k + 1) M ++ List.replicate (n - (k + 1)) z := by
 obtain ⟨m, hm⟩ : ∃ m, n - k = m + 1 := ⟨n - k - 1, by omega⟩
 rw [hm, show n - (k + 1) = m by omega, List.set_append_right _ _ (by simp)]
 simp only [List.length_replicate, Nat.sub_self]
 rw [List.replicate_succ, List.set_cons_zero, List.replicate_succ']
 simp
structure SzS (g : List Ru) (l : List Int) : Prop where
 inv : SzInv MUCH g l
 pos : ∀ x ∈ l, 1 ≤ x
def NoLess (g : List Ru) (l : List Int) (k : Nat) : Prop := ∀ (j : Nat) r n, j < k → g[j]? = some r → l[j]? = some n → ¬ costRu MUCH l r < n
structure Swp (g : List Ru) (l0 l : List Int) (bv : Bool) (k : Nat) : Prop where
 s : SzS g l
 no : bv = false → l = l0 ∧ NoLess g l k
 yes : bv = true → l.sum < l0.sum
theorem SzS.len {g : List Ru} {l : List Int} (h : SzS g l) : l.length = g.length := h.inv.1
theorem SzS.bd {g : List Ru} {l : List Int} (h : SzS g l) {k : Nat} {x : Int} (hx : l[k]? = some x) : 1 ≤ x ∧ x ≤ MUCH := by
 have hk := (List.getElem?_eq_some_iff.1 hx).1
 have hkg : k < g.length := by rw [← h.len]; exact hk
 obtain ⟨n, h1, _, h3⟩ := h.inv.2 k g[k] (List.getElem?_eq_getElem hkg)
 rw [hx] at h1
 injection h1 with h1
 subst h1
 exact ⟨h.pos _ (List.mem_of_getElem? hx), h3⟩
theorem SzS.part {g : List Ru} {l : List Int} (h : SzS g l) (hok : ∀ r ∈ g, KindsOk g.length r) {r : Ru} (hr : r ∈ g) (i : Nat) : 1 ≤ (r.slots.take i).foldl (costStep MUCH l) 1 ∧ (r.slots.take i).foldl (costStep MUCH l) 1 ≤ MUCH := by
 have hp := h.inv.pos (by decide) h.pos
 exact cost_bd hp (r.slots.take i) 1 (fun s hs => hok r hr s (List.mem_of_mem_take hs)) (by decide)
theorem SzS.low {g : List Ru} {l : List Int} (h : SzS g l) (hok : ∀ r ∈ g, KindsOk g.length r) {r : Ru} (hr : r ∈ g) {s : Sl} (hs : s ∈ r.slots) : ∃ (j : Nat) (y : Int), lowestL l s.kinds = j ∧ j < g.length ∧ l[j]? = some y ∧ getI l (lowestL l s.kinds) = y ∧ 1 ≤ y ∧ y ≤ MUCH := by
 obtain ⟨h1, h2⟩ := hok r hr s hs
 have h3 := h2 _ (lowest_mem (L := l) h1)
 obtain ⟨j, hj⟩ : ∃ j : Nat, lowestL l s.kinds = j := ⟨(lowestL l s.kinds).toNat, by omega⟩
 rw [hj] at h3
 have hjl : j < l.length := by rw [h.len]; omega
 have hy := List.getElem?_eq_getElem hjl
 exact ⟨j, l[j], hj, by omega, hy, by rw [hj]; exact getI_at hy, h.bd hy⟩
theorem SzS.start {g : List Ru} (hok : ∀ r ∈ g, KindsOk g.length r) : SzS g (List.replicate g.length MUCH) := ⟨SzInv.start (by decide) hok, fun x hx => by rw [(List.mem_replicate.1 hx).2]; decide⟩
theorem Swp.start {g : List Ru} {l : List Int} (h : SzS g l) : Swp g l l false 0 := ⟨h, (fun _ => ⟨rfl, fun j _ _ hj => by omega⟩), (fun h => by cases h)⟩
theorem Swp.next {g : List Ru} {l0 l : List Int} {bv : Bool} {k : Nat} {r : Ru} {n : Int} (h : Swp g l0 l bv k) (hok : ∀ r ∈ g, KindsOk g.length r) (hr : Hid (g[k]? = some r)) (hn : l[k]? = some n) (hlt : costRu MUCH l r < n) (hl0 : l.sum ≤ l0.sum) : Swp g l0 (l.set k (costRu MUCH l r)) true (k + 1) ∧ (l.set k (costRu MUCH l r)).sum ≤ l0.sum := by
 have h1 := sum_set (x := costRu MUCH l r) hn
 exact ⟨⟨⟨h.s.inv.set hok hr.out hn hlt, h.s.inv.pos_set (by decide) hok hr.out h.s.pos⟩, (fun h => by cases h), (fun _ => by omega)⟩, by omega⟩
theorem Swp.stay {g : List Ru} {l0 l : List Int} {bv : Bool} {k : Nat} {r : Ru} {n : Int} (h : Swp g l0 l bv k) (hr : Hid (g[k]? = some r)) (hn : l[k]? = some n) (hlt : ¬ costRu MUCH l r < n) : Swp g l0 l bv (k + 1) :=
 ⟨h.s, fun hb => ⟨(h.no hb).1, fun j q m hj hq hm => by
  by_cases e : j = k
  ·subst e
   obtain rfl : r = q := by rw [hr.out] at hq; exact Option.some.inj hq
   obtain rfl : n = m := by rw [hn] at hm; exact Option.some.inj hm
   exact hlt
  ·exact (h.no hb).2 j q m (by omega) hq hm⟩, h.yes⟩
theorem Swp.done {g : List Ru} {l0 l L : List Int} (h : Swp g l0 l false g.length) (hok : ∀ r ∈ g, KindsOk g.length r) (hL : IsSz MUCH g L) (hp : ∀ x ∈ L, 1 ≤ x) : l = L :=
 sz_uniq (by decide) hok (h.s.inv.done fun k r n hr hn => (h.no rfl).2 k r n (List.getElem?_eq_some_iff.1 hr).1 hr hn) hL h.s.pos hp
def SzLoop (w : World) (g : List Ru) (L : List Int) (A : Option Addr) (c : Nat) (t : Nat) (v : Value) (wr : World) : Prop :=
 ∃ (bv : Bool) (l : List Int), v = .bool bv ∧ IntAt wr (w.heap.size + 1) l ∧ Hid (SzS g l) ∧ Hid (bv = false → l = L) ∧ Blk wr w.heap.size 24 #[.slice A g.length c] ∧ Fr [] w wr ∧ Hid (2 * l.sum.toNat + bv.toNat < t)
theorem sum_nat {l l' : List Int} (h : l.sum < l'.sum) (hp : ∀ x ∈ l, 1 ≤ x) : 2 * l.sum.toNat + 1 < 2 * l'.sum.toNat + 1 := by
 have := sum_nonneg hp
 omega
set_option maxRecDepth 20000 in
set_option maxHeartbeats 3200000 in
theorem sizes_any (A : Option Addr) (c : Nat) (g : List Ru) (L : List Int) (w : World) (ha : RRu w A c g) (h0 : g ≠ []) (hn : g.length ≤ 32) (hok : ∀ r ∈ g, KindsOk g.length r) (hL : IsSz MUCH g L) (hLp : ∀ x ∈ L, 1 ≤ x) :
  Calls Tryz.prog 43 #[.agg #[.slice A g.length c]] w (RetI w L) := by
 have HOK := Lib.hid hok
 have hpos : 0 < g.length := List.length_pos_iff.2 h0
 have HD : Hid (∀ l0 l, Swp g l0 l false g.length → l = L) := fun l0 l h => h.done hok hL hLp
 have HLL : Hid (L.length = g.length) := hL.1
 clear h0 hok hL hLp
 go_enter Tryz.func43, Tryz.ntmps43
 go_wp2_with (at_make; refine wpList_makeN rfl _ _ _ rfl elemInts rfl g.length rfl rfl (by omega) ?_; intro w0 hown0 hg0; have hsz : (w.alloc (.cells #[.slice A g.length c] 24)).heap.size = w.heap.size + 1 := (by simp); rw [hsz] at hown0; clear hsz; have hbl0 := own_blk hown0 (by omega); rw [← List.map_replicate] at hbl0)
 have hf0 : Fr [] w w0 := ((Fr.refl _ _).alloc _).grown hg0 (by simp)
 have hB0 : Blk w0 w.heap.size 24 #[.slice A g.length c] := (Blk.new w _ _ _ rfl).grown hg0 (by simp)
 have hI0 : IntAt w0 (w.heap.size + 1) (List.replicate 0 MUCH ++ List.replicate (g.length - 0) 0) := hbl0
 clear hown0 hg0 hbl0
 go_loopw [17] (fun i wr => ∃ k : Nat, k ≤ g.length ∧ i = .int .i64 k ∧ IntAt wr (w.heap.size + 1) (List.replicate k MUCH ++ List.replicate (g.length - k) 0) ∧ Blk wr w.heap.size 24 #[.slice A g.length c] ∧ Fr [] w wr) (fun i _ => g.length - (intOf i).toNat)
 case atStart => exact ⟨0, Nat.zero_le _, rfl, hI0, hB0, hf0⟩
 case round =>
  clear hI0 hB0 hf0
  obtain ⟨k, hk, rfl, hI, hB, hf⟩ := hrel
  by_cases hlt : k < g.length
  ·have hsn := Lib.hid (fill_set g.length k MUCH 0 hlt)
   obtain ⟨x, hx⟩ : ∃ x, (List.replicate k MUCH ++ List.replicate (g.length - k) 0)[k]? = some x := ⟨_, List.getElem?_eq_getElem (by simp; omega)⟩
   obtain ⟨k0, k1⟩ := hI.cell hx
   clear hx
   go_wp2
   go_roundw
   case rel => exact ⟨k + 1, by omega, by go_num, by rw [← hsn.out]; exact hI.set_ k MUCH, hB.far (p := ⟨w.heap.size + 1, k, none⟩) (by simp) _, hf.setCell (p := ⟨w.heap.size + 1, k, none⟩) (.inr (by simp)) _⟩
   case measure => simp [intOf]; omega
  ·obtain rfl : k = g.length := by omega
   rw [Nat.sub_self, List.replicate_zero, List.append_nil] at hI
   have hS0 := Lib.hid (SzS.start HOK.out)
   generalize List.replicate g.length MUCH = l0 at *
   have hJ : SzLoop w g L A c (2 * l0.sum.toNat + 2) (.bool true) wr := ⟨true, l0, rfl, hI, hS0, (fun h => by cases h), hB, hf, Nat.lt_succ_self _⟩
   clear hI hB hf hS0
   generalize 2 * l0.sum.toNat + 2 = N at *
   go_wp2_with fail
   go_loopg [5] N (SzLoop w g L A c)
   case atStart => exact hJ
   case round =>
    clear hJ
    obtain ⟨bv, l, rfl, hI, hS, hd, hB, hf, ht⟩ := hrel
    cases bv
    ·obtain rfl := hd.out rfl
     have hr := hI.rd (by rw [HLL.out]; unfold maxLen; omega)
     rw [HLL.out] at hr
     go_wp2
     go_ret
     have hE := HLL.out
     exact ⟨_, _, (show Ending.returned (.slice (some ⟨w.heap.size + 1, 0, none⟩) g.length g.length) = .returned (.slice (some ⟨w.heap.size + 1, 0, none⟩) l.length g.length) by rw [hE]), hf, hr⟩
    ·have q0 := hB.cell 0 rfl
     have hI1 := hI
     have hB1 := hB
     have hf1 := hf
     go_wp2_with fail
     go_loopw [5, 28] (fun v i wr => ∃ (k : Nat) (bv : Bool) (l' : List Int), k ≤ g.length ∧ i = .int .i64 k ∧ v = .bool bv ∧ IntAt wr (w.heap.size + 1) l' ∧ Hid (Swp g l l' bv k) ∧ Hid (l'.sum ≤ l.sum) ∧ Blk wr w.heap.size 24 #[.slice A g.length c] ∧ Fr [] w wr) (fun _ i _ => g.length - (intOf i).toNat)
     case atStart => exact ⟨0, false, l, Nat.zero_le _, rfl, rfl, hI1, Swp.start hS.out, Int.le_refl _, hB1, hf1⟩
     case round =>
      clear hI1 hB1 hf1 hI hB hf q0
      obtain ⟨k, bv, l', hk, rfl, rfl, hI, hw, hle, hB, hf⟩ := hrel
      have hll : l'.length = g.length := hw.out.s.len
      by_cases hlt : k < g.length
      ·obtain ⟨b, off, r, A1, c1, rfl, hr, e0, e1, e2, e3, hSl⟩ := ha.at_ hlt
       have e0 := hf.cell e0 (by simp)
       have e1 := hf.cell e1 (by simp)
       have e2 := hf.cell e2 (by simp)
       have e3 := hf.cell e3 (by simp)
       have hsb := hSl.bound
       have hrm := Lib.hid (List.mem_of_getElem? hr.out)
       have hpart : Hid (∀ i, 1 ≤ (r.slots.take i).foldl (costStep MUCH l') 1 ∧ (r.slots.take i).foldl (costStep MUCH l') 1 ≤ MUCH) := fun i => hw.out.s.part HOK.out hrm.out i
       have hI2 := hI
       have hB2 := hB
       have hf2 := hf
       obtain ⟨W1, hW1⟩ : ∃ W1, W1 = wr.alloc (.cells #[.string r.before, .string r.after, .bool r.leaf, .slice A1 r.slots.length c1] 51) := ⟨_, rfl⟩
       have hBW : Blk W1 wr.heap.size 51 #[.string r.before, .string r.after, .bool r.leaf, .slice A1 r.slots.length c1] := by rw [hW1]; exact Blk.new _ _ _ _ rfl
       have q3 := hBW.cell 3 rfl
       rw [hW1] at q3
       go_wp2_with fail
       rw [← hW1]
       have hfW : Fr [] wr W1 := by rw [hW1]; exact (Fr.refl _ _).alloc _
       clear hW1 q3
       go_loopw [8, 36] (fun v i w2 => ∃ k2 : Nat, k2 ≤ r.slots.length ∧ i = .int .i64 k2 ∧ v = .int .i64 ((r.slots.take k2).foldl (costStep MUCH l') 1) ∧ Fr [] W1 w2) (fun _ i _ => r.slots.length - (intOf i).toNat)
       case atStart => exact ⟨0, Nat.zero_le _, rfl, rfl, Fr.refl _ _⟩
       case round =>
        clear hI2 hB2 hf2
        obtain ⟨k2, hk2, rfl, rfl, hf3⟩ := hrel
        have hF3 := (hf.trans hfW).trans hf3
        have hI3 := (hI.fr0 hfW).fr0 hf3
        have hB3 := (hB.fr hfW (by simp)).fr hf3 (by simp)
        have hpb := hpart.out k2
        by_cases hlt2 : k2 < r.slots.length
        ·obtain ⟨b2, off2, s, A4, c4, rfl, hs, hm, s0, s1, hks, s2⟩ := (hSl.fr0 hF3).at_ hlt2
         have hsm := Lib.hid (List.mem_of_getElem? hs.out)
         obtain ⟨hkn, hkr⟩ := HOK.out r hrm.out s hsm.out
         have HKN := Lib.hid hkn
         have HKR := Lib.hid hkr
         have HF := Lib.hid (fold_take (f := costStep MUCH l') (b := 1) hs)
         have hpb2 := hpart.out (k2 + 1)
         rw [HF.out] at hpb2
         obtain ⟨j, y, hj, hjl, hy, hgy, hy1, hy2⟩ := hw.out.s.low HOK.out hrm.out hsm.out
         obtain ⟨y0, _⟩ := hI3.cell hy
         clear hkn hkr
         generalize (r.slots.take k2).foldl (costStep MUCH l') 1 = n0 at *
         by_cases hmz : s.many = 0
         ·have hst : Hid (costStep MUCH l' n0 s = min (n0 + y) MUCH) := by show _ = _; unfold costStep; rw [if_pos hmz, hgy]
          have hd : (s.many == 0) = true := by simp [hmz]
          have hmz := Lib.hid hmz
          have HJ := Lib.hid hj
          have HY := Lib.hid hy
          have HGY := Lib.hid hgy
          clear hj hy hgy
          go_wp2_with fail
          refine (lowestn_any g.length _ A4 _ c4 l' s.kinds _ hll (by have := hI3.rd (by rw [hll]; unfold maxLen; omega); rw [hll] at this; exact this.alloc _) (hks.alloc _) HKN.out HKR.out).mono ?_
          rw [HJ.out]
          rintro e w4 ⟨rfl, n4, rfl⟩
          have y1 := fun o => ((Fr.refl [] _).alloc o).cell y0 (by simp)
          obtain ⟨z, hz⟩ : ∃ z, min (n0 + y) MUCH = z := ⟨_, rfl⟩
          have hz2 : min (n0 + y) 1073741824 = z := hz
          have HZ := Lib.hid hz
          clear hz
          go_wp2
          go_roundw
          case rel =>
           refine ⟨k2 + 1, by omega, by go_num, ?_, Fr.trans hf3 frx⟩
           have hM : MUCH = 1073741824 := rfl
           rw [HF.out, hst.out, IntWalk.wrap64_in (n0 + y) (by omega)]
           congr 1
           rw [hM]
           split <;> omega
          case measure => simp [intOf]; omega
         ·have hst : Hid (costStep MUCH l' n0 s = n0) := by show _ = _; unfold costStep; rw [if_neg hmz]
          have hd : (s.many == 0) = false := by simp [hmz]
          have hmz := Lib.hid hmz
          clear hj hy hgy
          go_wp2
          go_roundw
          case rel => exact ⟨k2 + 1, by omega, by go_num, by rw [HF.out, hst.out], Fr.trans hf3 frx⟩
          case measure => simp [intOf]; omega
        ·have hcost : Hid ((r.slots.take k2).foldl (costStep MUCH l') 1 = costRu MUCH l' r) := by show _ = _; rw [List.take_of_length_le (by omega)]; rfl
         rw [hcost.out] at *
         obtain ⟨y, hy⟩ : ∃ y, l'[k]? = some y := ⟨_, List.getElem?_eq_getElem (by omega)⟩
         obtain ⟨y0, y1⟩ := hI3.cell hy
         have hyb := hw.out.s.bd hy
         by_cases hlt3 : costRu MUCH l' r < y
         ·have hn := Lib.hid (hw.out.next HOK.out hr hy hlt3 hle.out)
          have hd : decide (costRu MUCH l' r < y) = true := by simp [hlt3]
          have hlt3 := Lib.hid hlt3
          clear hy
          generalize costRu MUCH l' r = cv at *
          go_wp2
          go_roundw
          case rel => exact ⟨k + 1, true, _, by omega, by go_num, rfl, hI3.set_ k cv, hn.out.1, hn.out.2, hB3.far (p := ⟨w.heap.size + 1, k, none⟩) (by simp) _, hF3.setCell (p := ⟨w.heap.size + 1, k, none⟩) (.inr (by simp)) _⟩
          case measure => simp [intOf]; omega
         ·have hn := Lib.hid (hw.out.stay hr hy hlt3)
          have hd : decide (costRu MUCH l' r < y) = false := by simp [hlt3]
          have hlt3 := Lib.hid hlt3
          clear hy
          generalize costRu MUCH l' r = cv at *
          go_wp2
          go_roundw
          case rel => exact ⟨k + 1, bv, l', by omega, by go_num, rfl, hI3, hn.out, hle, hB3, hF3⟩
          case measure => simp [intOf]; omega
      ·obtain rfl : k = g.length := by omega
       obtain ⟨t, rfl⟩ : ∃ t, gk = t + 1 := ⟨gk - 1, by have := ht.out; omega⟩
       have hS2 := Lib.hid hw.out.s
       have hnx : Hid ((bv = false → l' = L) ∧ 2 * l'.sum.toNat + bv.toNat < t) := by
        have h1 := ht.out
        cases bv
        ·have h2 := (hw.out.no rfl).1
         refine ⟨fun _ => HD.out _ _ hw.out, ?_⟩
         rw [h2]
         simp at h1 ⊢
         omega
        ·have h2 := sum_nat (hw.out.yes rfl) hw.out.s.pos
         refine ⟨fun h => (by cases h), ?_⟩
         simp at h1 ⊢
         omega
       go_wp2
       go_roundg t
       case measure => omega
       case rel => exact ⟨bv, l', rfl, hI, hS2, hnx.out.1, hB, hf, hnx.out.2⟩
end

/- The reference's sizes: plain. -/
section
open Go.RowKit
def chcStep (N : List Int) (best k : Int) : Int := if 0 < getI N k ∧ (best < 0 ∨ getI N k < getI N best) then k else best
def choiceF (N kinds : List Int) : Int := kinds.foldl (chcStep N) (-1)
def upI (x : Int) : Int := if x = 0 then 1025 else x
def dnI (x : Int) : Int := if x ≤ 1024 then x else 0
def crStep (N : List Int) (n : Int) (s : Sl) : Int := if n = 0 then 0 else if s.many = 0 then (if choiceF N s.kinds < 0 ∨ 1024 < n + getI N (choiceF N s.kinds) then 0 else n + getI N (choiceF N s.kinds)) else n
def costR (N : List Int) (r : Ru) : Int := r.slots.foldl (crStep N) 1
theorem getI_map {f : Int → Int} (L : List Int) {k : Int} (h : k.toNat < L.length) : getI (L.map f) k = f (getI L k) := by
 unfold getI
 rw [List.getD_eq_getElem?_getD, List.getD_eq_getElem?_getD, List.getElem?_map, List.getElem?_eq_getElem h]
 rfl
def InN (N : List Int) : Prop := ∀ x ∈ N, 0 ≤ x ∧ x ≤ 1024
theorem InN.get {N : List Int} (h : InN N) (k : Int) : 0 ≤ getI N k ∧ getI N k ≤ 1024 := by
 unfold getI
 rw [List.getD_eq_getElem?_getD]
 rcases hk : N[k.toNat]? with _ | x
 ·simp
 ·exact h x (List.mem_of_getElem? hk)
theorem choice_fold {N : List Int} (hN : InN N) : ∀ (ks : List Int) (b c : Int), (∀ k ∈ ks, 0 ≤ k ∧ k < N.length) → 0 ≤ b → b < N.length → ((c = -1 ∧ getI N b = 0) ∨ (c = b ∧ 0 < getI N b)) →
    ((ks.foldl (chcStep N) c = -1 ∧ getI N (ks.foldl (lowStep (N.map upI)) b) = 0) ∨ (ks.foldl (chcStep N) c = ks.foldl (lowStep (N.map upI)) b ∧ 0 < getI N (ks.foldl (lowStep (N.map upI)) b)))
  | [], b, c, _, _, _, h => h
  | k :: ks, b, c, hk, h0, h1, h => by
    have hk1 := hk k (by simp)
    have gk := getI_map (f := upI) N (k := k) (by omega)
    have gb := getI_map (f := upI) N (k := b) (by omega)
    have hNk := hN.get k
    have hNb := hN.get b
    rw [List.foldl_cons, List.foldl_cons]
    have hks : ∀ x ∈ ks, 0 ≤ x ∧ x < N.length := fun x hx => hk x (by simp [hx])
    have hlow : lowStep (N.map upI) b k = if upI (getI N k) < upI (getI N b) then k else b := by unfold lowStep; rw [gk, gb]
    rw [hlow]
    rcases h with ⟨rfl, hz⟩ | ⟨rfl, hp⟩
    · by_cases hkp : 0 < getI N k
      · have e1 : chcStep N (-1) k = k := by unfold chcStep; rw [if_pos ⟨hkp, .inl (by omega)⟩]
        have e2 : upI (getI N k) < upI (getI N b) := by unfold upI; rw [if_neg (by omega), if_pos hz]; omega
        rw [e1, if_pos e2]
        exact choice_fold hN ks k k hks hk1.1 hk1.2 (.inr ⟨rfl, hkp⟩)
      · have e1 : chcStep N (-1) k = -1 := by unfold chcStep; rw [if_neg (by omega)]
        have e2 : ¬ upI (getI N k) < upI (getI N b) := by unfold upI; rw [if_pos (by omega), if_pos hz]; omega
        rw [e1, if_neg e2]
        exact choice_fold hN ks b (-1) hks h0 h1 (.inl ⟨rfl, hz⟩)
    · by_cases hkp : 0 < getI N k ∧ getI N k < getI N c
      · have e1 : chcStep N c k = k := by unfold chcStep; rw [if_pos ⟨hkp.1, .inr hkp.2⟩]
        have e2 : upI (getI N k) < upI (getI N c) := by unfold upI; rw [if_neg (by omega), if_neg (by omega)]; omega
        rw [e1, if_pos e2]
        exact choice_fold hN ks k k hks hk1.1 hk1.2 (.inr ⟨rfl, hkp.1⟩)
      · have e1 : chcStep N c k = c := by unfold chcStep; rw [if_neg (by omega)]
        have e2 : ¬ upI (getI N k) < upI (getI N c) := by unfold upI; split <;> split <;> omega
        rw [e1, if_neg e2]
        exact choice_fold hN ks c c hks h0 h1 (.inr ⟨rfl, hp⟩)
theorem choice_low {N ks : List Int} (hN : InN N) (h0 : ks ≠ []) (hk : ∀ k ∈ ks, 0 ≤ k ∧ k < N.length) :
    (choiceF N ks = -1 ∧ getI N (lowestL (N.map upI) ks) = 0) ∨ (choiceF N ks = lowestL (N.map upI) ks ∧ 0 < getI N (lowestL (N.map upI) ks)) := by
  unfold choiceF lowestL
  cases ks with
  | nil => exact absurd rfl h0
  | cons a l =>
    have ha := hk a (by simp)
    have hg := hN.get a
    rw [List.headD_cons, List.foldl_cons, List.foldl_cons]
    have e0 : lowStep (N.map upI) a a = a := by unfold lowStep; split <;> rfl
    rw [e0]
    refine choice_fold hN l a _ (fun k hk' => hk k (by simp [hk'])) ha.1 ha.2 ?_
    by_cases hp : 0 < getI N a
    · exact .inr ⟨by unfold chcStep; rw [if_pos ⟨hp, .inl (by omega)⟩], hp⟩
    · exact .inl ⟨by unfold chcStep; rw [if_neg (by omega)], by omega⟩
theorem choice_rng {N ks : List Int} (hN : InN N) (h0 : ks ≠ []) (hk : ∀ k ∈ ks, 0 ≤ k ∧ k < N.length) : choiceF N ks = -1 ∨ (0 ≤ choiceF N ks ∧ choiceF N ks < N.length) := by
 rcases choice_low hN h0 hk with ⟨h, _⟩ | ⟨h, _⟩
 ·exact .inl h
 ·have := hk _ (lowest_mem (L := N.map upI) h0)
  rw [h]
  exact .inr this
theorem up_nn {x : Int} (h : 0 ≤ x) : 0 ≤ upI x := by unfold upI; split <;> omega
theorem up_step {N : List Int} {s : Sl} {n : Int} (hN : InN N) (h0 : s.kinds ≠ []) (hk : ∀ k ∈ s.kinds, 0 ≤ k ∧ k < N.length) (hn : 0 ≤ n ∧ n ≤ 1024) :
  upI (crStep N n s) = costStep 1025 (N.map upI) (upI n) s ∧ 0 ≤ crStep N n s ∧ crStep N n s ≤ 1024 := by
 have hl := hk _ (lowest_mem (L := N.map upI) h0)
 have hg := getI_map (f := upI) N (k := lowestL (N.map upI) s.kinds) (by omega)
 have hb := hN.get (lowestL (N.map upI) s.kinds)
 unfold crStep costStep
 rw [hg]
 have hb2 := hN.get (choiceF N s.kinds)
 by_cases hz : n = 0
 ·rw [if_pos hz]
  refine ⟨?_, by omega, by omega⟩
  subst hz
  rw [show upI 0 = 1025 from rfl]
  have hu := up_nn hb.1
  split <;> omega
 ·rw [if_neg hz]
  by_cases hm : s.many = 0
  ·rw [if_pos hm, if_pos hm]
   rcases choice_low hN h0 hk with ⟨h1, h2⟩ | ⟨h1, h2⟩
   ·rw [if_pos (.inl (by omega)), h2]
    unfold upI
    simp [hz]
    omega
   ·rw [h1]
    generalize getI N (lowestL (N.map upI) s.kinds) = y at *
    by_cases hc : 1024 < n + y
    ·rw [if_pos (.inr hc)]
     unfold upI
     rw [if_pos rfl, if_neg hz, if_neg (by omega)]
     omega
    ·rw [if_neg (by omega)]
     unfold upI
     rw [if_neg (by omega), if_neg hz, if_neg (by omega)]
     omega
  ·rw [if_neg hm, if_neg hm]
   exact ⟨rfl, hn⟩
theorem up_fold {N : List Int} (hN : InN N) : ∀ (l : List Sl) (n : Int), (∀ s ∈ l, s.kinds ≠ [] ∧ ∀ k ∈ s.kinds, 0 ≤ k ∧ k < N.length) → 0 ≤ n → n ≤ 1024 →
    upI (l.foldl (crStep N) n) = l.foldl (costStep 1025 (N.map upI)) (upI n) ∧ 0 ≤ l.foldl (crStep N) n ∧ l.foldl (crStep N) n ≤ 1024
  | [], n, _, h0, h1 => ⟨rfl, h0, h1⟩
  | s :: l, n, hs, h0, h1 => by
    obtain ⟨h2, h3, h4⟩ := up_step hN (hs s (by simp)).1 (hs s (by simp)).2 ⟨h0, h1⟩
    rw [List.foldl_cons, List.foldl_cons, ← h2]
    exact up_fold hN l _ (fun t ht => hs t (by simp [ht])) h3 h4
theorem costR_up {N : List Int} {r : Ru} (hN : InN N) (hk : KindsOk N.length r) : upI (costR N r) = costRu 1025 (N.map upI) r ∧ 0 ≤ costR N r ∧ costR N r ≤ 1024 := up_fold hN _ 1 hk (by omega) (by omega)
theorem crStep_zero : ∀ (N : List Int) (l : List Sl), l.foldl (crStep N) 0 = 0
 | N, [] => rfl
 | N, s :: l => by rw [List.foldl_cons, show crStep N 0 s = 0 by simp [crStep]]; exact crStep_zero N l
theorem low_cut {L ks : List Int} (h0 : ks ≠ []) (hk : ∀ k ∈ ks, 0 ≤ k ∧ k < L.length) : getI (L.map (min · 1025)) (lowestL (L.map (min · 1025)) ks) = min (getI L (lowestL L ks)) 1025 := by
 have h1 := lowest_mem (L := L) h0
 have h2 := lowest_mem (L := L.map (min · 1025)) h0
 have h3 := lowest_le (L := L.map (min · 1025)) h1
 have h4 := lowest_le (L := L) h2
 rw [getI_map (f := (min · 1025)) L (k := lowestL L ks) (by have := hk _ h1; omega)] at h3
 rw [getI_map (f := (min · 1025)) L (k := lowestL (L.map (min · 1025)) ks) (by have := hk _ h2; omega)] at h3 ⊢
 omega
theorem cut_fold {L : List Int} (hp : ∀ k : Int, 0 ≤ k → k < L.length → 1 ≤ getI L k) : ∀ (l : List Sl) (a : Int), (∀ s ∈ l, s.kinds ≠ [] ∧ ∀ k ∈ s.kinds, 0 ≤ k ∧ k < L.length) → 1 ≤ a → a ≤ MUCH →
    l.foldl (costStep 1025 (L.map (min · 1025))) (min a 1025) = min (l.foldl (costStep MUCH L) a) 1025
  | [], a, _, _, _ => rfl
  | s :: l, a, hs, h1, h2 => by
    have hM : MUCH = 1073741824 := rfl
    have hb := hs s (by simp)
    have h3 := low_cut hb.1 hb.2
    have h4 := hb.2 _ (lowest_mem (L := L) hb.1)
    have h5 := hp _ h4.1 h4.2
    have h6 : costStep 1025 (L.map (min · 1025)) (min a 1025) s = min (costStep MUCH L a s) 1025 := by
      unfold costStep
      rw [h3]
      split
      · omega
      · rfl
    have h7 : 1 ≤ costStep MUCH L a s ∧ costStep MUCH L a s ≤ MUCH := by
      unfold costStep
      split <;> omega
    rw [List.foldl_cons, List.foldl_cons, h6]
    exact cut_fold hp l _ (fun t ht => hs t (by simp [ht])) h7.1 h7.2
theorem sz_cut {g : List Ru} {L : List Int} (h : IsSz MUCH g L) (hp : ∀ x ∈ L, 1 ≤ x) (hok : ∀ r ∈ g, KindsOk g.length r) : IsSz 1025 g (L.map (min · 1025)) ∧ ∀ x ∈ L.map (min · 1025), 1 ≤ x := by
 have hpos := h.all_pos (by decide) hok hp
 rw [← h.1] at hpos
 refine ⟨⟨by simpa using h.1, fun k r hr => ?_⟩, fun x hx => ?_⟩
 ·rw [List.getElem?_map, h.2 k r hr]
  have := cut_fold hpos r.slots 1 (by have := hok r (List.mem_of_getElem? hr); unfold KindsOk at this; rw [h.1]; exact this) (by omega) (by decide)
  simp only [Option.map_some, costRu]
  rw [← this]
  rfl
 ·obtain ⟨y, hy, rfl⟩ := List.mem_map.1 hx
  have := hp y hy
  omega
structure SzN (g : List Ru) (N : List Int) : Prop where
 inn : InN N
 inv : SzInv 1025 g (N.map upI)
theorem SzN.len {g : List Ru} {N : List Int} (h : SzN g N) : N.length = g.length := by simpa using h.inv.1
theorem up_pos {N : List Int} (h : InN N) : ∀ x ∈ N.map upI, 1 ≤ x := fun x hx => by
 obtain ⟨y, hy, rfl⟩ := List.mem_map.1 hx
 have := h y hy
 unfold upI
 split <;> omega
theorem SzN.start {g : List Ru} (hok : ∀ r ∈ g, KindsOk g.length r) : SzN g (List.replicate g.length 0) :=
 ⟨fun x hx => by rw [(List.mem_replicate.1 hx).2]; omega, by rw [List.map_replicate]; exact SzInv.start (by decide) hok⟩
theorem dn_min {x y : Int} (hx : 0 ≤ x ∧ x ≤ 1024) (h : upI x = min y 1025) (hy : 1 ≤ y) : x = dnI y := by
 unfold upI at h
 unfold dnI
 split at h <;> split <;> omega
theorem SzN.done {g : List Ru} {N L : List Int} (h : SzN g N) (hd : ∀ (k : Nat) r n, g[k]? = some r → N[k]? = some n → ¬ (0 < costR N r ∧ (n = 0 ∨ costR N r < n))) (hok : ∀ r ∈ g, KindsOk g.length r) (hL : IsSz MUCH g L) (hp : ∀ x ∈ L, 1 ≤ x) : N = L.map dnI := by
 have hs : IsSz 1025 g (N.map upI) := h.inv.done fun k r n hr hn hlt => by
  rw [List.getElem?_map] at hn
  rcases hm : N[k]? with _ | m
  ·rw [hm] at hn; cases hn
  ·rw [hm] at hn
   have hn : upI m = n := by simpa using hn
   have hkr := hok r (List.mem_of_getElem? hr)
   rw [← h.len] at hkr
   obtain ⟨h1, h2, h3⟩ := costR_up h.inn hkr
   have h4 := h.inn m (List.mem_of_getElem? hm)
   refine hd k r m hr hm ?_
   rw [← h1] at hlt
   unfold upI at hlt hn
   split at hlt <;> split at hn <;> omega
 obtain ⟨h1, h2⟩ := sz_cut hL hp hok
 have he := sz_uniq (by decide) hok hs h1 (up_pos h.inn) h2
 refine List.ext_getElem? fun k => ?_
 have hk : (N.map upI)[k]? = (L.map (min · 1025))[k]? := by rw [he]
 rw [List.getElem?_map, List.getElem?_map] at hk
 rw [List.getElem?_map]
 rcases hn : N[k]? with _ | n <;> rcases hl : L[k]? with _ | l
 ·rfl
 ·rw [hn, hl] at hk; cases hk
 ·rw [hn, hl] at hk; cases hk
 ·rw [hn, hl] at hk
  simp only [Option.map_some, Option.some.injEq] at hk ⊢
  exact dn_min (h.inn n (List.mem_of_getElem? hn)) hk (hp l (List.mem_of_getElem? hl))
theorem SzN.set {g : List Ru} {N : List Int} {k : Nat} {r : Ru} {n : Int} (h : SzN g N) (hok : ∀ r ∈ g, KindsOk g.length r) (hr : g[k]? = some r) (hn : N[k]? = some n) (hc : 0 < costR N r ∧ (n = 0 ∨ costR N r < n)) :
  SzN g (N.set k (costR N r)) ∧ ((N.set k (costR N r)).map upI).sum < (N.map upI).sum := by
 have hkr := hok r (List.mem_of_getElem? hr)
 rw [← h.len] at hkr
 obtain ⟨h1, h2, h3⟩ := costR_up h.inn hkr
 have hb := h.inn n (List.mem_of_getElem? hn)
 have hup : upI (costR N r) < upI n := by unfold upI; split <;> split <;> omega
 have hn' : (N.map upI)[k]? = some (upI n) := by rw [List.getElem?_map, hn]; rfl
 have hset : (N.set k (costR N r)).map upI = (N.map upI).set k (costRu 1025 (N.map upI) r) := by rw [List.map_set, h1]
 refine ⟨⟨fun x hx => ?_, ?_⟩, ?_⟩
 ·rcases List.mem_or_eq_of_mem_set hx with h4 | rfl
  ·exact h.inn x h4
  ·exact ⟨h2, h3⟩
 ·rw [hset]
  exact h.inv.set hok hr hn' (by rw [← h1]; exact hup)
 ·rw [hset, sum_set hn', ← h1]
  omega
theorem choice_fold2 {L : List Int} (hp : ∀ x ∈ L, 1 ≤ x) : ∀ (ks : List Int) (b c : Int), (∀ k ∈ ks, 0 ≤ k ∧ k < L.length) → 0 ≤ b → b < L.length → ((c = b ∧ getI L b ≤ 1024) ∨ (c = -1 ∧ 1024 < getI L b)) →
    ((ks.foldl (chcStep (L.map dnI)) c = ks.foldl (lowStep L) b ∧ getI L (ks.foldl (lowStep L) b) ≤ 1024) ∨ (ks.foldl (chcStep (L.map dnI)) c = -1 ∧ 1024 < getI L (ks.foldl (lowStep L) b)))
  | [], b, c, _, _, _, h => h
  | k :: ks, b, c, hk, h0, h1, h => by
    have hk1 := hk k (by simp)
    have gk := getI_map (f := dnI) L (k := k) (by omega)
    have gb := getI_map (f := dnI) L (k := b) (by omega)
    have pk : 1 ≤ getI L k := by
      unfold getI
      rw [List.getD_eq_getElem?_getD, List.getElem?_eq_getElem (by omega : k.toNat < L.length)]
      exact hp _ (List.getElem_mem _)
    rw [List.foldl_cons, List.foldl_cons]
    have hks : ∀ x ∈ ks, 0 ≤ x ∧ x < L.length := fun x hx => hk x (by simp [hx])
    rcases h with ⟨rfl, hb⟩ | ⟨rfl, hb⟩
    · by_cases hlt : getI L k < getI L c
      · have e1 : chcStep (L.map dnI) c k = k := by unfold chcStep; rw [gk, gb]; unfold dnI; rw [if_pos]; refine ⟨?_, .inr ?_⟩ <;> (repeat split) <;> omega
        have e2 : lowStep L c k = k := by unfold lowStep; rw [if_pos hlt]
        rw [e1, e2]
        exact choice_fold2 hp ks k k hks hk1.1 hk1.2 (.inl ⟨rfl, by omega⟩)
      · have e1 : chcStep (L.map dnI) c k = c := by
          unfold chcStep; rw [gk, gb]; unfold dnI; rw [if_neg]
          rintro ⟨h2, h3⟩
          split at h2 <;> (repeat split at h3) <;> omega
        have e2 : lowStep L c k = c := by unfold lowStep; rw [if_neg hlt]
        rw [e1, e2]
        exact choice_fold2 hp ks c c hks h0 h1 (.inl ⟨rfl, hb⟩)
    · by_cases hlt : getI L k ≤ 1024
      · have e1 : chcStep (L.map dnI) (-1) k = k := by unfold chcStep; rw [gk]; unfold dnI; rw [if_pos]; refine ⟨?_, .inl (by omega)⟩; split <;> omega
        have e2 : lowStep L b k = k := by unfold lowStep; rw [if_pos (by omega)]
        rw [e1, e2]
        exact choice_fold2 hp ks k k hks hk1.1 hk1.2 (.inl ⟨rfl, hlt⟩)
      · have e1 : chcStep (L.map dnI) (-1) k = -1 := by
          unfold chcStep; rw [gk]; unfold dnI; rw [if_neg]
          rintro ⟨h2, _⟩
          split at h2 <;> omega
        rw [e1]
        unfold lowStep
        split
        · exact choice_fold2 hp ks k (-1) hks hk1.1 hk1.2 (.inr ⟨rfl, by omega⟩)
        · exact choice_fold2 hp ks b (-1) hks h0 h1 (.inr ⟨rfl, hb⟩)
theorem choice_eq {L ks : List Int} (hp : ∀ x ∈ L, 1 ≤ x) (h0 : ks ≠ []) (hk : ∀ k ∈ ks, 0 ≤ k ∧ k < L.length) :
    (choiceF (L.map dnI) ks = lowestL L ks ∧ getI L (lowestL L ks) ≤ 1024) ∨ (choiceF (L.map dnI) ks = -1 ∧ 1024 < getI L (lowestL L ks)) := by
  unfold choiceF lowestL
  cases ks with
  | nil => exact absurd rfl h0
  | cons a l =>
    have ha := hk a (by simp)
    have ga := getI_map (f := dnI) L (k := a) (by omega)
    have pa : 1 ≤ getI L a := by
      unfold getI
      rw [List.getD_eq_getElem?_getD, List.getElem?_eq_getElem (by omega : a.toNat < L.length)]
      exact hp _ (List.getElem_mem _)
    rw [List.headD_cons, List.foldl_cons, List.foldl_cons]
    have e0 : lowStep L a a = a := by unfold lowStep; split <;> rfl
    rw [e0]
    refine choice_fold2 hp l a _ (fun k hk' => hk k (by simp [hk'])) ha.1 ha.2 ?_
    by_cases hle : getI L a ≤ 1024
    · exact .inl ⟨by unfold chcStep; rw [ga]; unfold dnI; rw [if_pos]; refine ⟨?_, .inl (by omega)⟩; split <;> omega, hle⟩
    · refine .inr ⟨?_, by omega⟩
      unfold chcStep; rw [ga]; unfold dnI; rw [if_neg]
      rintro ⟨h2, _⟩
      split at h2 <;> omega
end

/- choice of the reference. -/
section
open Go.RowKit
theorem ch_take_rng {N ks : List Int} (hk : ∀ k ∈ ks, 0 ≤ k ∧ k < N.length) : ∀ b : Int, (b = -1 ∨ (0 ≤ b ∧ b < N.length)) → ks.foldl (chcStep N) b = -1 ∨ (0 ≤ ks.foldl (chcStep N) b ∧ ks.foldl (chcStep N) b < N.length) := by
  induction ks with
  | nil => intro b h; exact h
  | cons k ks ih =>
    intro b h
    rw [List.foldl_cons]
    refine ih (fun x hx => hk x (by simp [hx])) _ ?_
    unfold chcStep
    split
    · exact .inr (hk k (by simp))
    · exact h

set_option maxRecDepth 20000 in
set_option maxHeartbeats 1600000 in
theorem choice_any (n : Nat) (A B : Option Addr) (ca cb : Nat) (m : Int) (ks : List Int) (bt : ByteArray) (N : List Int) (w : World) (hn : N.length = n) (ha : Rd w (.int .i64) A ca N) (hb : Rd w (.int .i64) B cb ks) (hk : ∀ k ∈ ks, 0 ≤ k ∧ k < n) :
  Calls Tryz.prog 65 #[.agg #[.int .u8 m, .slice B ks.length cb, .string bt], .slice A n ca] w (RetV w (.int .i64 (choiceF N ks))) := by
 subst hn
 have hL1 := ha.bound
 have hk1 := hb.bound
 have HK := Lib.hid hk
 clear hk
 go_enter Tryz.func65, Tryz.ntmps65
 go_wp2
 go_loopw [5, 6] (fun v i wr => ∃ k : Nat, k ≤ ks.length ∧ i = .int .i64 k ∧ v = .int .i64 ((ks.take k).foldl (chcStep N) (-1)) ∧ Blk wr w.heap.size 55 #[.int .u8 m, .slice B ks.length cb, .string bt] ∧ Fr [] w wr) (fun _ i _ => ks.length - (intOf i).toNat)
 case atStart => exact ⟨0, Nat.zero_le _, rfl, rfl, Blk.new _ _ _ _ rfl, (Fr.refl _ _).alloc _⟩
 case round =>
  obtain ⟨k, hk, rfl, rfl, hB, hf⟩ := hrel
  have q1 := hB.cell 1 rfl
  have hm' : (ks.take k).foldl (chcStep N) (-1) = -1 ∨ (0 ≤ (ks.take k).foldl (chcStep N) (-1) ∧ (ks.take k).foldl (chcStep N) (-1) < N.length) :=
   ch_take_rng (ks := ks.take k) (fun x hx => HK.out x (List.mem_of_mem_take hx)) (-1) (.inl rfl)
  by_cases hlt : k < ks.length
  ·obtain ⟨b1, o1, x, hA1, hx, hc1⟩ := (hb.fr0 hf).at_ hlt
   subst hA1
   have hxr := HK.out _ (List.mem_of_getElem? hx.out)
   have HF := Lib.hid (fold_take (f := chcStep N) (b := -1) hx)
   generalize (ks.take k).foldl (chcStep N) (-1) = best at *
   obtain ⟨xn, rfl⟩ : ∃ xn : Nat, x = xn := ⟨x.toNat, by omega⟩
   obtain ⟨b3, o3, u, hA3, hu, hc3⟩ := (ha.fr0 hf).at_ (k := xn) (by omega)
   subst hA3
   have hgu : Hid (getI N xn = u) := getI_at hu.out
   by_cases hp : 0 < u
   ·have hd : decide (0 < u) = true := by simp [hp]
    rcases hm' with rfl | ⟨hb0, hb1⟩
    ·have hst : Hid (chcStep N (-1) xn = xn) := by show _ = _; unfold chcStep; rw [hgu.out, if_pos ⟨hp, .inl (by omega)⟩]
     go_wp2
     go_quiet (fail)
     go_wp2
     go_roundw
     case rel => exact ⟨k + 1, by omega, by go_num, by rw [HF.out, hst.out], Blk.drewN (by assumption) _, hf.drewN _⟩
     case measure => simp [intOf]; omega
    ·obtain ⟨bn, rfl⟩ : ∃ bn : Nat, best = bn := ⟨best.toNat, by omega⟩
     obtain ⟨b4, o4, z, hA4, hz, hc4⟩ := (ha.fr0 hf).at_ (k := bn) (by omega)
     injection hA4 with hA4
     injection hA4 with e1 e2
     subst e1 e2
     have hgz : Hid (getI N bn = z) := getI_at hz.out
     have hd3 : decide ((bn : Int) < 0) = false := by simp
     by_cases hlu : u < z
     ·have hd2 : decide (u < z) = true := by simp [hlu]
      have hst : Hid (chcStep N bn xn = xn) := by show _ = _; unfold chcStep; rw [hgu.out, hgz.out, if_pos ⟨hp, .inr hlu⟩]
      go_wp2
      go_quiet (fail)
      go_wp2
      go_roundw
      case rel => exact ⟨k + 1, by omega, by go_num, by rw [HF.out, hst.out], Blk.drewN (by assumption) _, hf.drewN _⟩
      case measure => simp [intOf]; omega
     ·have hd2 : decide (u < z) = false := by simp [hlu]
      have hst : Hid (chcStep N bn xn = bn) := by show _ = _; unfold chcStep; rw [hgu.out, hgz.out, if_neg (by omega)]
      go_wp2
      go_quiet (fail)
      go_wp2
      go_roundw
      case rel => exact ⟨k + 1, by omega, by go_num, by rw [HF.out, hst.out], Blk.drewN (by assumption) _, hf.drewN _⟩
      case measure => simp [intOf]; omega
   ·have hd : decide (0 < u) = false := by simp [hp]
    have hst : Hid (chcStep N best xn = best) := by show _ = _; unfold chcStep; rw [hgu.out, if_neg (by omega)]
    go_wp2
    go_quiet (fail)
    go_wp2
    go_roundw
    case rel => exact ⟨k + 1, by omega, by go_num, by rw [HF.out, hst.out], Blk.drewN (by assumption) _, hf.drewN _⟩
    case measure => simp [intOf]; omega
  ·rw [List.take_of_length_le (by omega)]
   go_wp2
   go_ret
   exact ⟨rfl, hf⟩
end

/- sizes of the reference. -/
section
open Go.RowKit
def RBetter (N : List Int) (r : Ru) (n : Int) : Prop := 0 < costR N r ∧ (n = 0 ∨ costR N r < n)
structure RSwp (g : List Ru) (N0 N : List Int) (bv : Bool) (k : Nat) : Prop where
 s : SzN g N
 no : bv = false → N = N0 ∧ ∀ (j : Nat) r n, j < k → g[j]? = some r → N[j]? = some n → ¬ RBetter N r n
 yes : bv = true → (N.map upI).sum < (N0.map upI).sum
theorem RSwp.start {g : List Ru} {l : List Int} (h : SzN g l) : RSwp g l l false 0 := ⟨h, (fun _ => ⟨rfl, fun j _ _ hj => by omega⟩), (fun h => by cases h)⟩
theorem RSwp.next {g : List Ru} {l0 l : List Int} {bv : Bool} {k : Nat} {r : Ru} {n : Int} (h : RSwp g l0 l bv k) (hok : ∀ r ∈ g, KindsOk g.length r) (hr : Hid (g[k]? = some r)) (hn : l[k]? = some n) (hlt : RBetter l r n) (hl0 : (l.map upI).sum ≤ (l0.map upI).sum) : RSwp g l0 (l.set k (costR l r)) true (k + 1) ∧ ((l.set k (costR l r)).map upI).sum ≤ (l0.map upI).sum := by
 obtain ⟨h1, h2⟩ := h.s.set hok hr.out hn hlt
 exact ⟨⟨h1, (fun h => by cases h), (fun _ => by omega)⟩, by omega⟩
theorem RSwp.stay {g : List Ru} {l0 l : List Int} {bv : Bool} {k : Nat} {r : Ru} {n : Int} (h : RSwp g l0 l bv k) (hr : Hid (g[k]? = some r)) (hn : l[k]? = some n) (hlt : ¬ RBetter l r n) : RSwp g l0 l bv (k + 1) :=
 ⟨h.s, fun hb => ⟨(h.no hb).1, fun j q m hj hq hm => by
  by_cases e : j = k
  ·subst e
   obtain rfl : r = q := by rw [hr.out] at hq; exact Option.some.inj hq
   obtain rfl : n = m := by rw [hn] at hm; exact Option.some.inj hm
   exact hlt
  ·exact (h.no hb).2 j q m (by omega) hq hm⟩, h.yes⟩
theorem RSwp.done {g : List Ru} {l0 l L : List Int} (h : RSwp g l0 l false g.length) (hok : ∀ r ∈ g, KindsOk g.length r) (hL : IsSz MUCH g L) (hp : ∀ x ∈ L, 1 ≤ x) : l = L.map dnI :=
 h.s.done (fun k r n hr hn => (h.no rfl).2 k r n (List.getElem?_eq_some_iff.1 hr).1 hr hn) hok hL hp
def RSzLoop (w : World) (g : List Ru) (L : List Int) (A : Option Addr) (c : Nat) (t : Nat) (v : Value) (wr : World) : Prop :=
 ∃ (bv : Bool) (l : List Int), v = .bool bv ∧ IntAt wr (w.heap.size + 1) l ∧ Hid (SzN g l) ∧ Hid (bv = false → l = L.map dnI) ∧ Blk wr w.heap.size 24 #[.slice A g.length c] ∧ Fr [] w wr ∧ Hid (2 * (l.map upI).sum.toNat + bv.toNat < t)
theorem cr_stop {N : List Int} {l : List Sl} {k : Nat} (h : (l.take k).foldl (crStep N) 1 = 0) : l.foldl (crStep N) 1 = 0 := by
 conv => lhs; rw [← List.take_append_drop k l, List.foldl_append, h]
 exact crStep_zero N _
theorem SzN.part {g : List Ru} {N : List Int} (h : SzN g N) (hok : ∀ r ∈ g, KindsOk g.length r) {r : Ru} (hr : r ∈ g) (i : Nat) : 0 ≤ (r.slots.take i).foldl (crStep N) 1 ∧ (r.slots.take i).foldl (crStep N) 1 ≤ 1024 := by
 have := hok r hr
 rw [← h.len] at this
 exact (up_fold h.inn (r.slots.take i) 1 (fun s hs => this s (List.mem_of_mem_take hs)) (by omega) (by omega)).2
theorem SzN.cho {g : List Ru} {N : List Int} (h : SzN g N) (hok : ∀ r ∈ g, KindsOk g.length r) {r : Ru} (hr : r ∈ g) {s : Sl} (hs : s ∈ r.slots) : choiceF N s.kinds = -1 ∨ ∃ (j : Nat) (y : Int), choiceF N s.kinds = j ∧ j < g.length ∧ N[j]? = some y ∧ getI N (choiceF N s.kinds) = y ∧ 0 ≤ y ∧ y ≤ 1024 := by
 have h2 := hok r hr
 rw [← h.len] at h2
 obtain ⟨h3, h4⟩ := h2 s hs
 rcases choice_rng h.inn h3 h4 with h5 | h5
 ·exact .inl h5
 ·obtain ⟨j, hj⟩ : ∃ j : Nat, choiceF N s.kinds = j := ⟨(choiceF N s.kinds).toNat, by omega⟩
  rw [hj] at h5
  have hjl : j < N.length := by omega
  have hy := List.getElem?_eq_getElem hjl
  exact .inr ⟨j, N[j], hj, by rw [← h.len]; exact hjl, hy, by rw [hj]; exact getI_at hy, h.inn _ (List.getElem_mem _)⟩
set_option maxRecDepth 20000 in
set_option maxHeartbeats 3200000 in
theorem refsizes_any (A : Option Addr) (c : Nat) (g : List Ru) (L : List Int) (w : World) (ha : RRu w A c g) (h0 : g ≠ []) (hn : g.length ≤ 32) (hok : ∀ r ∈ g, KindsOk g.length r) (hL : IsSz MUCH g L) (hLp : ∀ x ∈ L, 1 ≤ x) :
  Calls Tryz.prog 39 #[.agg #[.slice A g.length c]] w (RetI w (L.map dnI)) := by
 have HOK := Lib.hid hok
 have hpos : 0 < g.length := List.length_pos_iff.2 h0
 have HD : Hid (∀ l0 l, RSwp g l0 l false g.length → l = L.map dnI) := fun l0 l h => h.done hok hL hLp
 have HLL : Hid ((L.map dnI).length = g.length) := by show _ = _; rw [List.length_map]; exact hL.1
 clear h0 hok hL hLp
 go_enter Tryz.func39, Tryz.ntmps39
 go_wp2_with (at_make; refine wpList_makeN rfl _ _ _ rfl elemInts rfl g.length rfl rfl (by omega) ?_; intro w0 hown0 hg0; have hsz : (w.alloc (.cells #[.slice A g.length c] 24)).heap.size = w.heap.size + 1 := (by simp); rw [hsz] at hown0; clear hsz; have hbl0 := own_blk hown0 (by omega); rw [← List.map_replicate] at hbl0)
 have hf0 : Fr [] w w0 := ((Fr.refl _ _).alloc _).grown hg0 (by simp)
 have hB0 : Blk w0 w.heap.size 24 #[.slice A g.length c] := (Blk.new w _ _ _ rfl).grown hg0 (by simp)
 have hI0 : IntAt w0 (w.heap.size + 1) (List.replicate g.length 0) := hbl0
 clear hown0 hg0 hbl0
 have hS0 := Lib.hid (SzN.start HOK.out)
 generalize List.replicate g.length (0 : Int) = l0 at *
 have hJ : RSzLoop w g L A c (2 * (l0.map upI).sum.toNat + 2) (.bool true) w0 := ⟨true, l0, rfl, hI0, hS0, (fun h => by cases h), hB0, hf0, Nat.lt_succ_self _⟩
 clear hI0 hB0 hf0 hS0
 generalize 2 * (l0.map upI).sum.toNat + 2 = M at *
 go_loopg [4] M (RSzLoop w g L A c)
 case atStart => exact hJ
 case round =>
  clear hJ
  obtain ⟨bv, l, rfl, hI, hS, hd, hB, hf, ht⟩ := hrel
  cases bv
  ·obtain rfl := hd.out rfl
   have hr := hI.rd (by rw [HLL.out]; unfold maxLen; omega)
   rw [HLL.out] at hr
   go_wp2
   go_ret
   have hE := HLL.out
   exact ⟨_, _, (show Ending.returned (.slice (some ⟨w.heap.size + 1, 0, none⟩) g.length g.length) = .returned (.slice (some ⟨w.heap.size + 1, 0, none⟩) (L.map dnI).length g.length) by rw [hE]), hf, hr⟩
  ·have q0 := hB.cell 0 rfl
   have hI1 := hI
   have hB1 := hB
   have hf1 := hf
   go_wp2_with fail
   go_loopw [4, 5] (fun v i wr => ∃ (k : Nat) (bv : Bool) (l' : List Int), k ≤ g.length ∧ i = .int .i64 k ∧ v = .bool bv ∧ IntAt wr (w.heap.size + 1) l' ∧ Hid (RSwp g l l' bv k) ∧ Hid ((l'.map upI).sum ≤ (l.map upI).sum) ∧ Blk wr w.heap.size 24 #[.slice A g.length c] ∧ Fr [] w wr) (fun _ i _ => g.length - (intOf i).toNat)
   case atStart => exact ⟨0, false, l, Nat.zero_le _, rfl, rfl, hI1, RSwp.start hS.out, Int.le_refl _, hB1, hf1⟩
   case round =>
    clear hI1 hB1 hf1 hI hB hf q0
    obtain ⟨k, bv, l', hk, rfl, rfl, hI, hw, hle, hB, hf⟩ := hrel
    have hll : l'.length = g.length := hw.out.s.len
    have q0 := hB.cell 0 rfl
    by_cases hlt : k < g.length
    ·obtain ⟨b, off, r, A1, c1, rfl, hr, e0, e1, e2, e3, hSl⟩ := ha.at_ hlt
     have hsb := hSl.bound
     have hrm := Lib.hid (List.mem_of_getElem? hr.out)
     have hpart : Hid (∀ i, 0 ≤ (r.slots.take i).foldl (crStep l') 1 ∧ (r.slots.take i).foldl (crStep l') 1 ≤ 1024) := fun i => hw.out.s.part HOK.out hrm.out i
     have hI2 := hI
     have hB2 := hB
     have hf2 := hf
     go_wp2_with fail
     go_loopw [6, 7] (fun v i w2 => ∃ k2 : Nat, k2 ≤ r.slots.length ∧ i = .int .i64 k2 ∧ v = .int .i64 ((r.slots.take k2).foldl (crStep l') 1) ∧ Fr [] wr w2) (fun _ i _ => r.slots.length - (intOf i).toNat)
     case atStart => exact ⟨0, Nat.zero_le _, rfl, rfl, Fr.refl _ _⟩
     case round =>
      clear hI2 hB2 hf2 q0
      obtain ⟨k2, hk2, rfl, rfl, hf3⟩ := hrel
      have hF3 := hf.trans hf3
      have hI3 := hI.fr0 hf3
      have hB3 := hB.fr hf3 (by simp)
      have q0 := hB3.cell 0 rfl
      have e3 := hF3.cell e3 (by simp)
      have hpb := hpart.out k2
      by_cases hlt2 : k2 < r.slots.length
      ·have HF0 : Hid ((r.slots.take k2).foldl (crStep l') 1 = 0 → costR l' r = 0) := fun h => cr_stop h
       by_cases hz : (r.slots.take k2).foldl (crStep l') 1 = 0
       ·have hc0 := Lib.hid (HF0.out hz)
        rw [hz] at *
        obtain ⟨y, hy⟩ : ∃ y, l'[k]? = some y := ⟨_, List.getElem?_eq_getElem (by omega)⟩
        have hn := Lib.hid (hw.out.stay hr hy (fun h => by have := h.1; rw [hc0.out] at this; omega))
        go_wp2
        go_roundw
        case rel => exact ⟨k + 1, bv, l', by omega, by go_num, rfl, hI3, hn.out, hle, hB3, hF3⟩
        case measure => simp [intOf]; omega
       ·obtain ⟨b2, off2, s, A4, c4, rfl, hs, hm, s0, s1, hks, s2⟩ := (hSl.fr0 hF3).at_ hlt2
        have hsm := Lib.hid (List.mem_of_getElem? hs.out)
        have HKR := Lib.hid (HOK.out r hrm.out s hsm.out).2
        have HF := Lib.hid (fold_take (f := crStep l') (b := 1) hs)
        have hch := hw.out.s.cho HOK.out hrm.out hsm.out
        generalize (r.slots.take k2).foldl (crStep l') 1 = n0 at *
        have hd0 : decide (0 < n0) = true := by simp; omega
        by_cases hmz : s.many = 0
        ·have hst : Hid (crStep l' n0 s = if choiceF l' s.kinds < 0 ∨ 1024 < n0 + getI l' (choiceF l' s.kinds) then 0 else n0 + getI l' (choiceF l' s.kinds)) := by show _ = _; unfold crStep; rw [if_neg hz, if_pos hmz]
         have hd : (s.many != 0) = false := by simp [hmz]
         rcases hch with hj | ⟨j, y, hj, hjl, hy, hgy, hy1, hy2⟩
         ·have hst2 : Hid (crStep l' n0 s = 0) := by show _ = _; rw [hst.out, if_pos (.inl (by omega))]
          have HJ := Lib.hid hj
          clear hj
          go_wp2_with fail
          refine (choice_any g.length _ A4 _ c4 _ s.kinds _ l' _ hll (by have := hI3.rd (by rw [hll]; unfold maxLen; omega); rw [hll] at this; exact this.alloc _) (hks.alloc _) HKR.out).mono ?_
          rw [HJ.out]
          rintro e w4 ⟨rfl, hf4⟩
          go_wp2
          go_roundw
          case rel => exact ⟨k2 + 1, by omega, by go_num, by rw [HF.out, hst2.out], (Fr.trans hf3 frx).trans hf4⟩
          case measure => simp [intOf]; omega
         ·obtain ⟨y0, _⟩ := hI3.cell hy
          rw [hgy] at hst
          have HJ := Lib.hid hj
          clear hj hy hgy
          have hjn : decide ((j : Int) < 0) = false := by simp
          by_cases hc : 1024 < n0 + y
          ·have hst2 : Hid (crStep l' n0 s = 0) := by show _ = _; rw [hst.out, if_pos (.inr hc)]
           have hd1 : decide (1024 < n0 + y) = true := by simp [hc]
           go_wp2_with fail
           refine (choice_any g.length _ A4 _ c4 _ s.kinds _ l' _ hll (by have := hI3.rd (by rw [hll]; unfold maxLen; omega); rw [hll] at this; exact this.alloc _) (hks.alloc _) HKR.out).mono ?_
           rw [HJ.out]
           rintro e w4 ⟨rfl, hf4⟩
           have y1 := (((Fr.refl [] _).alloc _).trans hf4).cell y0 (by simp)
           go_wp2
           go_roundw
           case rel => exact ⟨k2 + 1, by omega, by go_num, by rw [HF.out, hst2.out], (Fr.trans hf3 frx).trans hf4⟩
           case measure => simp [intOf]; omega
          ·have hst2 : Hid (crStep l' n0 s = n0 + y) := by show _ = _; rw [hst.out, HJ.out, if_neg (by omega)]
           have hd1 : decide (1024 < n0 + y) = false := by simp; omega
           go_wp2_with fail
           refine (choice_any g.length _ A4 _ c4 _ s.kinds _ l' _ hll (by have := hI3.rd (by rw [hll]; unfold maxLen; omega); rw [hll] at this; exact this.alloc _) (hks.alloc _) HKR.out).mono ?_
           rw [HJ.out]
           rintro e w4 ⟨rfl, hf4⟩
           have y1 := (((Fr.refl [] _).alloc _).trans hf4).cell y0 (by simp)
           go_wp2
           go_roundw
           case rel => exact ⟨k2 + 1, by omega, by go_num, by rw [HF.out, hst2.out], (Fr.trans hf3 frx).trans hf4⟩
           case measure => simp [intOf]; omega
        ·have hst : Hid (crStep l' n0 s = n0) := by show _ = _; unfold crStep; rw [if_neg hz, if_neg hmz]
         have hd : (s.many != 0) = true := by simp [hmz]
         have hmz := Lib.hid hmz
         clear hch
         go_wp2
         go_roundw
         case rel => exact ⟨k2 + 1, by omega, by go_num, by rw [HF.out, hst.out], Fr.trans hf3 frx⟩
         case measure => simp [intOf]; omega
      ·have hcost : Hid ((r.slots.take k2).foldl (crStep l') 1 = costR l' r) := by show _ = _; rw [List.take_of_length_le (by omega)]; rfl
       rw [hcost.out] at *
       obtain ⟨y, hy⟩ : ∃ y, l'[k]? = some y := ⟨_, List.getElem?_eq_getElem (by omega)⟩
       obtain ⟨y0, y1⟩ := hI3.cell hy
       by_cases hp : 0 < costR l' r
       ·have hd : decide (0 < costR l' r) = true := by simp [hp]
        by_cases hyz : y = 0
        ·subst hyz
         have hn := Lib.hid (hw.out.next HOK.out hr hy ⟨hp, .inl rfl⟩ hle.out)
         have hp := Lib.hid hp
         clear hy
         generalize costR l' r = cv at *
         go_wp2
         go_roundw
         case rel => exact ⟨k + 1, true, _, by omega, by go_num, rfl, hI3.set_ k cv, hn.out.1, hn.out.2, hB3.far (p := ⟨w.heap.size + 1, k, none⟩) (by simp) _, hF3.setCell (p := ⟨w.heap.size + 1, k, none⟩) (.inr (by simp)) _⟩
         case measure => simp [intOf]; omega
        ·have hd4 : (y == 0) = false := by simp [hyz]
         by_cases hlt3 : costR l' r < y
         ·have hd5 : decide (costR l' r < y) = true := by simp [hlt3]
          have hn := Lib.hid (hw.out.next HOK.out hr hy ⟨hp, .inr hlt3⟩ hle.out)
          have hp := Lib.hid hp
          clear hy
          generalize costR l' r = cv at *
          go_wp2
          go_roundw
          case rel => exact ⟨k + 1, true, _, by omega, by go_num, rfl, hI3.set_ k cv, hn.out.1, hn.out.2, hB3.far (p := ⟨w.heap.size + 1, k, none⟩) (by simp) _, hF3.setCell (p := ⟨w.heap.size + 1, k, none⟩) (.inr (by simp)) _⟩
          case measure => simp [intOf]; omega
         ·have hd5 : decide (costR l' r < y) = false := by simp [hlt3]
          have hn := Lib.hid (hw.out.stay hr hy (fun h => by have := h.2; omega))
          have hp := Lib.hid hp
          have hyz := Lib.hid hyz
          clear hy
          generalize costR l' r = cv at *
          go_wp2
          go_roundw
          case rel => exact ⟨k + 1, bv, l', by omega, by go_num, rfl, hI3, hn.out, hle, hB3, hF3⟩
          case measure => simp [intOf]; omega
       ·have hd : decide (0 < costR l' r) = false := by simp [hp]
        have hn := Lib.hid (hw.out.stay hr hy (fun h => hp h.1))
        have hp := Lib.hid hp
        clear hy
        generalize costR l' r = cv at *
        go_wp2
        go_roundw
        case rel => exact ⟨k + 1, bv, l', by omega, by go_num, rfl, hI3, hn.out, hle, hB3, hF3⟩
        case measure => simp [intOf]; omega
    ·obtain rfl : k = g.length := by omega
     obtain ⟨t, rfl⟩ : ∃ t, gk = t + 1 := ⟨gk - 1, by have := ht.out; omega⟩
     have hS2 := Lib.hid hw.out.s
     have hnx : Hid ((bv = false → l' = L.map dnI) ∧ 2 * (l'.map upI).sum.toNat + bv.toNat < t) := by
      have h1 := ht.out
      cases bv
      ·have h2 := (hw.out.no rfl).1
       refine ⟨fun _ => HD.out _ _ hw.out, ?_⟩
       rw [h2]
       simp at h1 ⊢
       omega
      ·have h2 := sum_nat (hw.out.yes rfl) (up_pos hw.out.s.inn)
       refine ⟨fun h => (by cases h), ?_⟩
       simp at h1 ⊢
       omega
     go_wp2
     go_roundg t
     case measure => omega
     case rel => exact ⟨bv, l', rfl, hI, hS2, hnx.out.1, hB, hf, hnx.out.2⟩
end

/- sizes of the program once more: what it returns lies in new memory. -/
section
open Go.RowKit
def RetIN (w : World) (L : List Int) (e : Ending) (w' : World) : Prop := ∃ A c, e = .returned (.slice A L.length c) ∧ Fr [] w w' ∧ Rd w' (.int .i64) A c L ∧ Nw w.heap.size A
set_option maxRecDepth 20000 in
set_option maxHeartbeats 3200000 in
theorem sizesN_any (A : Option Addr) (c : Nat) (g : List Ru) (L : List Int) (w : World) (ha : RRu w A c g) (h0 : g ≠ []) (hn : g.length ≤ 32) (hok : ∀ r ∈ g, KindsOk g.length r) (hL : IsSz MUCH g L) (hLp : ∀ x ∈ L, 1 ≤ x) :
  Calls Tryz.prog 43 #[.agg #[.slice A g.length c]] w (RetIN w L) := by
 have HOK := Lib.hid hok
 have hpos : 0 < g.length := List.length_pos_iff.2 h0
 have HD : Hid (∀ l0 l, Swp g l0 l false g.length → l = L) := fun l0 l h => h.done hok hL hLp
 have HLL : Hid (L.length = g.length) := hL.1
 clear h0 hok hL hLp
 go_enter Tryz.func43, Tryz.ntmps43
 go_wp2_with (at_make; refine wpList_makeN rfl _ _ _ rfl elemInts rfl g.length rfl rfl (by omega) ?_; intro w0 hown0 hg0; have hsz : (w.alloc (.cells #[.slice A g.length c] 24)).heap.size = w.heap.size + 1 := (by simp); rw [hsz] at hown0; clear hsz; have hbl0 := own_blk hown0 (by omega); rw [← List.map_replicate] at hbl0)
 have hf0 : Fr [] w w0 := ((Fr.refl _ _).alloc _).grown hg0 (by simp)
 have hB0 : Blk w0 w.heap.size 24 #[.slice A g.length c] := (Blk.new w _ _ _ rfl).grown hg0 (by simp)
 have hI0 : IntAt w0 (w.heap.size + 1) (List.replicate 0 MUCH ++ List.replicate (g.length - 0) 0) := hbl0
 clear hown0 hg0 hbl0
 go_loopw [17] (fun i wr => ∃ k : Nat, k ≤ g.length ∧ i = .int .i64 k ∧ IntAt wr (w.heap.size + 1) (List.replicate k MUCH ++ List.replicate (g.length - k) 0) ∧ Blk wr w.heap.size 24 #[.slice A g.length c] ∧ Fr [] w wr) (fun i _ => g.length - (intOf i).toNat)
 case atStart => exact ⟨0, Nat.zero_le _, rfl, hI0, hB0, hf0⟩
 case round =>
  clear hI0 hB0 hf0
  obtain ⟨k, hk, rfl, hI, hB, hf⟩ := hrel
  by_cases hlt : k < g.length
  ·have hsn := Lib.hid (fill_set g.length k MUCH 0 hlt)
   obtain ⟨x, hx⟩ : ∃ x, (List.replicate k MUCH ++ List.replicate (g.length - k) 0)[k]? = some x := ⟨_, List.getElem?_eq_getElem (by simp; omega)⟩
   obtain ⟨k0, k1⟩ := hI.cell hx
   clear hx
   go_wp2
   go_roundw
   case rel => exact ⟨k + 1, by omega, by go_num, by rw [← hsn.out]; exact hI.set_ k MUCH, hB.far (p := ⟨w.heap.size + 1, k, none⟩) (by simp) _, hf.setCell (p := ⟨w.heap.size + 1, k, none⟩) (.inr (by simp)) _⟩
   case measure => simp [intOf]; omega
  ·obtain rfl : k = g.length := by omega
   rw [Nat.sub_self, List.replicate_zero, List.append_nil] at hI
   have hS0 := Lib.hid (SzS.start HOK.out)
   generalize List.replicate g.length MUCH = l0 at *
   have hJ : SzLoop w g L A c (2 * l0.sum.toNat + 2) (.bool true) wr := ⟨true, l0, rfl, hI, hS0, (fun h => by cases h), hB, hf, Nat.lt_succ_self _⟩
   clear hI hB hf hS0
   generalize 2 * l0.sum.toNat + 2 = N at *
   go_wp2_with fail
   go_loopg [5] N (SzLoop w g L A c)
   case atStart => exact hJ
   case round =>
    clear hJ
    obtain ⟨bv, l, rfl, hI, hS, hd, hB, hf, ht⟩ := hrel
    cases bv
    ·obtain rfl := hd.out rfl
     have hr := hI.rd (by rw [HLL.out]; unfold maxLen; omega)
     rw [HLL.out] at hr
     go_wp2
     go_ret
     have hE := HLL.out
     exact ⟨_, _, (show Ending.returned (.slice (some ⟨w.heap.size + 1, 0, none⟩) g.length g.length) = .returned (.slice (some ⟨w.heap.size + 1, 0, none⟩) l.length g.length) by rw [hE]), hf, hr, Nw.at_ (by omega)⟩
    ·have q0 := hB.cell 0 rfl
     have hI1 := hI
     have hB1 := hB
     have hf1 := hf
     go_wp2_with fail
     go_loopw [5, 28] (fun v i wr => ∃ (k : Nat) (bv : Bool) (l' : List Int), k ≤ g.length ∧ i = .int .i64 k ∧ v = .bool bv ∧ IntAt wr (w.heap.size + 1) l' ∧ Hid (Swp g l l' bv k) ∧ Hid (l'.sum ≤ l.sum) ∧ Blk wr w.heap.size 24 #[.slice A g.length c] ∧ Fr [] w wr) (fun _ i _ => g.length - (intOf i).toNat)
     case atStart => exact ⟨0, false, l, Nat.zero_le _, rfl, rfl, hI1, Swp.start hS.out, Int.le_refl _, hB1, hf1⟩
     case round =>
      clear hI1 hB1 hf1 hI hB hf q0
      obtain ⟨k, bv, l', hk, rfl, rfl, hI, hw, hle, hB, hf⟩ := hrel
      have hll : l'.length = g.length := hw.out.s.len
      by_cases hlt : k < g.length
      ·obtain ⟨b, off, r, A1, c1, rfl, hr, e0, e1, e2, e3, hSl⟩ := ha.at_ hlt
       have e0 := hf.cell e0 (by simp)
       have e1 := hf.cell e1 (by simp)
       have e2 := hf.cell e2 (by simp)
       have e3 := hf.cell e3 (by simp)
       have hsb := hSl.bound
       have hrm := Lib.hid (List.mem_of_getElem? hr.out)
       have hpart : Hid (∀ i, 1 ≤ (r.slots.take i).foldl (costStep MUCH l') 1 ∧ (r.slots.take i).foldl (costStep MUCH l') 1 ≤ MUCH) := fun i => hw.out.s.part HOK.out hrm.out i
       have hI2 := hI
       have hB2 := hB
       have hf2 := hf
       obtain ⟨W1, hW1⟩ : ∃ W1, W1 = wr.alloc (.cells #[.string r.before, .string r.after, .bool r.leaf, .slice A1 r.slots.length c1] 51) := ⟨_, rfl⟩
       have hBW : Blk W1 wr.heap.size 51 #[.string r.before, .string r.after, .bool r.leaf, .slice A1 r.slots.length c1] := by rw [hW1]; exact Blk.new _ _ _ _ rfl
       have q3 := hBW.cell 3 rfl
       rw [hW1] at q3
       go_wp2_with fail
       rw [← hW1]
       have hfW : Fr [] wr W1 := by rw [hW1]; exact (Fr.refl _ _).alloc _
       clear hW1 q3
       go_loopw [8, 36] (fun v i w2 => ∃ k2 : Nat, k2 ≤ r.slots.length ∧ i = .int .i64 k2 ∧ v = .int .i64 ((r.slots.take k2).foldl (costStep MUCH l') 1) ∧ Fr [] W1 w2) (fun _ i _ => r.slots.length - (intOf i).toNat)
       case atStart => exact ⟨0, Nat.zero_le _, rfl, rfl, Fr.refl _ _⟩
       case round =>
        clear hI2 hB2 hf2
        obtain ⟨k2, hk2, rfl, rfl, hf3⟩ := hrel
        have hF3 := (hf.trans hfW).trans hf3
        have hI3 := (hI.fr0 hfW).fr0 hf3
        have hB3 := (hB.fr hfW (by simp)).fr hf3 (by simp)
        have hpb := hpart.out k2
        by_cases hlt2 : k2 < r.slots.length
        ·obtain ⟨b2, off2, s, A4, c4, rfl, hs, hm, s0, s1, hks, s2⟩ := (hSl.fr0 hF3).at_ hlt2
         have hsm := Lib.hid (List.mem_of_getElem? hs.out)
         obtain ⟨hkn, hkr⟩ := HOK.out r hrm.out s hsm.out
         have HKN := Lib.hid hkn
         have HKR := Lib.hid hkr
         have HF := Lib.hid (fold_take (f := costStep MUCH l') (b := 1) hs)
         have hpb2 := hpart.out (k2 + 1)
         rw [HF.out] at hpb2
         obtain ⟨j, y, hj, hjl, hy, hgy, hy1, hy2⟩ := hw.out.s.low HOK.out hrm.out hsm.out
         obtain ⟨y0, _⟩ := hI3.cell hy
         clear hkn hkr
         generalize (r.slots.take k2).foldl (costStep MUCH l') 1 = n0 at *
         by_cases hmz : s.many = 0
         ·have hst : Hid (costStep MUCH l' n0 s = min (n0 + y) MUCH) := by show _ = _; unfold costStep; rw [if_pos hmz, hgy]
          have hd : (s.many == 0) = true := by simp [hmz]
          have hmz := Lib.hid hmz
          have HJ := Lib.hid hj
          have HY := Lib.hid hy
          have HGY := Lib.hid hgy
          clear hj hy hgy
          go_wp2_with fail
          refine (lowestn_any g.length _ A4 _ c4 l' s.kinds _ hll (by have := hI3.rd (by rw [hll]; unfold maxLen; omega); rw [hll] at this; exact this.alloc _) (hks.alloc _) HKN.out HKR.out).mono ?_
          rw [HJ.out]
          rintro e w4 ⟨rfl, n4, rfl⟩
          have y1 := fun o => ((Fr.refl [] _).alloc o).cell y0 (by simp)
          obtain ⟨z, hz⟩ : ∃ z, min (n0 + y) MUCH = z := ⟨_, rfl⟩
          have hz2 : min (n0 + y) 1073741824 = z := hz
          have HZ := Lib.hid hz
          clear hz
          go_wp2
          go_roundw
          case rel =>
           refine ⟨k2 + 1, by omega, by go_num, ?_, Fr.trans hf3 frx⟩
           have hM : MUCH = 1073741824 := rfl
           rw [HF.out, hst.out, IntWalk.wrap64_in (n0 + y) (by omega)]
           congr 1
           rw [hM]
           split <;> omega
          case measure => simp [intOf]; omega
         ·have hst : Hid (costStep MUCH l' n0 s = n0) := by show _ = _; unfold costStep; rw [if_neg hmz]
          have hd : (s.many == 0) = false := by simp [hmz]
          have hmz := Lib.hid hmz
          clear hj hy hgy
          go_wp2
          go_roundw
          case rel => exact ⟨k2 + 1, by omega, by go_num, by rw [HF.out, hst.out], Fr.trans hf3 frx⟩
          case measure => simp [intOf]; omega
        ·have hcost : Hid ((r.slots.take k2).foldl (costStep MUCH l') 1 = costRu MUCH l' r) := by show _ = _; rw [List.take_of_length_le (by omega)]; rfl
         rw [hcost.out] at *
         obtain ⟨y, hy⟩ : ∃ y, l'[k]? = some y := ⟨_, List.getElem?_eq_getElem (by omega)⟩
         obtain ⟨y0, y1⟩ := hI3.cell hy
         have hyb := hw.out.s.bd hy
         by_cases hlt3 : costRu MUCH l' r < y
         ·have hn := Lib.hid (hw.out.next HOK.out hr hy hlt3 hle.out)
          have hd : decide (costRu MUCH l' r < y) = true := by simp [hlt3]
          have hlt3 := Lib.hid hlt3
          clear hy
          generalize costRu MUCH l' r = cv at *
          go_wp2
          go_roundw
          case rel => exact ⟨k + 1, true, _, by omega, by go_num, rfl, hI3.set_ k cv, hn.out.1, hn.out.2, hB3.far (p := ⟨w.heap.size + 1, k, none⟩) (by simp) _, hF3.setCell (p := ⟨w.heap.size + 1, k, none⟩) (.inr (by simp)) _⟩
          case measure => simp [intOf]; omega
         ·have hn := Lib.hid (hw.out.stay hr hy hlt3)
          have hd : decide (costRu MUCH l' r < y) = false := by simp [hlt3]
          have hlt3 := Lib.hid hlt3
          clear hy
          generalize costRu MUCH l' r = cv at *
          go_wp2
          go_roundw
          case rel => exact ⟨k + 1, bv, l', by omega, by go_num, rfl, hI3, hn.out, hle, hB3, hF3⟩
          case measure => simp [intOf]; omega
      ·obtain rfl : k = g.length := by omega
       obtain ⟨t, rfl⟩ : ∃ t, gk = t + 1 := ⟨gk - 1, by have := ht.out; omega⟩
       have hS2 := Lib.hid hw.out.s
       have hnx : Hid ((bv = false → l' = L) ∧ 2 * l'.sum.toNat + bv.toNat < t) := by
        have h1 := ht.out
        cases bv
        ·have h2 := (hw.out.no rfl).1
         refine ⟨fun _ => HD.out _ _ hw.out, ?_⟩
         rw [h2]
         simp at h1 ⊢
         omega
        ·have h2 := sum_nat (hw.out.yes rfl) hw.out.s.pos
         refine ⟨fun h => (by cases h), ?_⟩
         simp at h1 ⊢
         omega
       go_wp2
       go_roundg t
       case measure => omega
       case rel => exact ⟨bv, l', rfl, hI, hS2, hnx.out.1, hB, hf, hnx.out.2⟩
end

end Go.Proofs.YtippadnbngcjlaaGreatDoor
