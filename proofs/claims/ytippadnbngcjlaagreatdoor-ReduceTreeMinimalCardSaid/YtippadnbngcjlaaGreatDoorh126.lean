/- Texts of this seat, one behind the other: Choose2, Plus, Rule, RChkG, ChkG, ChkT, LeastT, Spots, SpotsS, Hist3. -/
import Derived.Test.YtippadnbngcjlaaGreatDoorh121
import Derived.Deep.RegionHeld3
import Derived.Test.YtippadnbngcjlaaGreatDoorh124
import Derived.Test.YtippadnbngcjlaaGreatDoorh13
import Derived.Test.YtippadnbngcjlaaGreatDoorh125
namespace Go.Proofs.YtippadnbngcjlaaGreatDoor
set_option linter.unusedVariables false

/- Choose, Ancestors: of the program and the reference. -/
section
open Go.RowKit
def RetPair (w : World) (r : Int × Int) (e : Ending) (w' : World) : Prop := e = .returned (.tuple #[.int .i64 r.1, .int .i64 r.2]) ∧ Fr [] w w'
theorem RetPair.of {w w' : World} {r : Int × Int} {a b : Int} (h : r = (a, b)) (hf : Fr [] w w') : RetPair w r (.returned (.tuple #[.int .i64 a, .int .i64 b])) w' := by subst h; exact ⟨rfl, hf⟩
end

/- Plus: the union of two sets; the reference's. -/
section
open Go.RowKit
def plus : List Int → List Int → List Int
 | [], ys => ys
 | x :: xs, [] => x :: xs
 | x :: xs, y :: ys => if x < y then x :: plus xs (y :: ys) else if x = y then x :: plus xs ys else y :: plus (x :: xs) ys
termination_by xs ys => xs.length + ys.length
theorem mem_plus : ∀ {xs ys : List Int} {z : Int}, z ∈ plus xs ys ↔ z ∈ xs ∨ z ∈ ys
  | [], ys, z => by simp [plus]
  | x :: xs, [], z => by simp [plus]
  | x :: xs, y :: ys, z => by
    rw [plus]
    split
    · rw [List.mem_cons, mem_plus]; simp [or_assoc]
    · split
      · rename_i h; subst h
        rw [List.mem_cons, mem_plus]
        simp only [List.mem_cons]
        constructor
        · rintro (h | h | h)
          · exact .inl (.inl h)
          · exact .inl (.inr h)
          · exact .inr (.inr h)
        · rintro ((h | h) | (h | h))
          · exact .inl h
          · exact .inr (.inl h)
          · exact .inl h
          · exact .inr (.inr h)
      · rw [List.mem_cons, mem_plus]
        simp only [List.mem_cons]
        constructor
        · rintro (h | (h | h) | h)
          · exact .inr (.inl h)
          · exact .inl (.inl h)
          · exact .inl (.inr h)
          · exact .inr (.inr h)
        · rintro ((h | h) | (h | h))
          · exact .inr (.inl (.inl h))
          · exact .inr (.inl (.inr h))
          · exact .inl h
          · exact .inr (.inr h)
termination_by xs ys => xs.length + ys.length
theorem plus_sorted : ∀ {xs ys : List Int}, xs.Pairwise (· < ·) → ys.Pairwise (· < ·) → (plus xs ys).Pairwise (· < ·)
  | [], ys, _, h => by simpa [plus] using h
  | x :: xs, [], h, _ => by simpa [plus] using h
  | x :: xs, y :: ys, hx, hy => by
    rw [plus]
    have hx' := List.pairwise_cons.1 hx
    have hy' := List.pairwise_cons.1 hy
    split
    · rename_i h
      refine List.pairwise_cons.2 ⟨fun z hz => ?_, plus_sorted hx'.2 hy⟩
      rcases mem_plus.1 hz with h1 | h1
      · exact hx'.1 z h1
      · rcases List.mem_cons.1 h1 with h2 | h2
        · omega
        · have := hy'.1 z h2; omega
    · split
      · rename_i h; subst h
        refine List.pairwise_cons.2 ⟨fun z hz => ?_, plus_sorted hx'.2 hy'.2⟩
        rcases mem_plus.1 hz with h1 | h1
        · exact hx'.1 z h1
        · exact hy'.1 z h1
      · refine List.pairwise_cons.2 ⟨fun z hz => ?_, plus_sorted hx hy'.2⟩
        rcases mem_plus.1 hz with h1 | h1
        · rcases List.mem_cons.1 h1 with h2 | h2
          · omega
          · have := hx'.1 z h2; omega
        · exact hy'.1 z h1
termination_by xs ys => xs.length + ys.length
theorem plus_set {n : Int} {xs ys : List Int} (hx : isSet n xs = true) (hy : isSet n ys = true) : isSet n (plus xs ys) = true := by
 rw [isSet_iff] at *
 exact ⟨fun z hz => (mem_plus.1 hz).elim (hx.1 z) (hy.1 z), plus_sorted hx.2 hy.2⟩
structure PlSt (xs ys zs : List Int) (i k : Nat) : Prop where
 eq : plus xs ys = zs ++ plus (xs.drop i) (ys.drop k)
 len : zs.length ≤ i + k
theorem PlSt.done {xs ys zs : List Int} {i k : Nat} (h : PlSt xs ys zs i k) (hx : xs.length ≤ i) (hy : ys.length ≤ k) : zs = plus xs ys := by
 rw [h.eq, List.drop_of_length_le hx, List.drop_of_length_le hy, plus]; simp
end

/- rule and CheckGrammar of the reference. -/
section
open Go.RowKit
theorem head_cases (r : Ru) : (16 < r.before.size ∧ headErr r = 3) ∨ (¬ 16 < r.before.size ∧ 16 < r.after.size ∧ headErr r = 3) ∨ (¬ 16 < r.before.size ∧ ¬ 16 < r.after.size ∧ r.leaf = true ∧ 0 < r.slots.length ∧ headErr r = 1) ∨
  (¬ 16 < r.before.size ∧ ¬ 16 < r.after.size ∧ (r.leaf = false ∨ (r.leaf = true ∧ ¬ 0 < r.slots.length)) ∧ 8 < r.slots.length ∧ headErr r = 3) ∨ (¬ 16 < r.before.size ∧ ¬ 16 < r.after.size ∧ (r.leaf = false ∨ (r.leaf = true ∧ ¬ 0 < r.slots.length)) ∧ ¬ 8 < r.slots.length ∧ headErr r = 0) := by
 unfold headErr
 by_cases h1 : 16 < r.before.size
 ·exact .inl ⟨h1, if_pos (.inl h1)⟩
 by_cases h2 : 16 < r.after.size
 ·exact .inr (.inl ⟨h1, h2, if_pos (.inr h2)⟩)
 rw [if_neg (not_or.2 ⟨h1, h2⟩)]
 rcases hl : r.leaf with _ | _
 ·by_cases h3 : 8 < r.slots.length
  ·exact .inr (.inr (.inr (.inl ⟨h1, h2, .inl rfl, h3, by rw [if_neg (by simp), if_pos h3]⟩)))
  ·exact .inr (.inr (.inr (.inr ⟨h1, h2, .inl rfl, h3, by rw [if_neg (by simp), if_neg h3]⟩)))
 ·by_cases h4 : 0 < r.slots.length
  ·exact .inr (.inr (.inl ⟨h1, h2, rfl, h4, if_pos ⟨rfl, h4⟩⟩))
  ·exact .inr (.inr (.inr (.inr ⟨h1, h2, .inr ⟨rfl, h4⟩, by omega, by rw [if_neg (fun h => h4 h.2), if_neg (by omega)]⟩)))
theorem slot_cases (n : Int) (s : Sl) : (2 < s.many ∧ slotErr n s = 1) ∨ (¬ 2 < s.many ∧ 16 < s.between.size ∧ slotErr n s = 3) ∨ (¬ 2 < s.many ∧ ¬ 16 < s.between.size ∧ s.kinds.length = 0 ∧ slotErr n s = 1) ∨
  (¬ 2 < s.many ∧ ¬ 16 < s.between.size ∧ ¬ s.kinds.length = 0 ∧ isSet n s.kinds = false ∧ slotErr n s = 1) ∨ (¬ 2 < s.many ∧ ¬ 16 < s.between.size ∧ ¬ s.kinds.length = 0 ∧ isSet n s.kinds = true ∧ slotErr n s = 0) := by
 unfold slotErr
 by_cases h1 : 2 < s.many
 ·exact .inl ⟨h1, if_pos h1⟩
 rw [if_neg h1]
 by_cases h2 : 16 < s.between.size
 ·exact .inr (.inl ⟨h1, h2, if_pos h2⟩)
 rw [if_neg h2]
 by_cases h3 : s.kinds.length = 0
 ·exact .inr (.inr (.inl ⟨h1, h2, h3, if_pos (.inl h3)⟩))
 rcases h4 : isSet n s.kinds with _ | _
 ·exact .inr (.inr (.inr (.inl ⟨h1, h2, h3, rfl, if_pos (.inr rfl)⟩)))
 ·exact .inr (.inr (.inr (.inr ⟨h1, h2, h3, rfl, if_neg (by simp [h3])⟩)))
theorem ruleErr_head {n : Int} {r : Ru} {e : Int} (h : headErr r = e) (he : e ≠ 0) : ruleErr n r = e := by simp [ruleErr, errFold, h, he]
theorem ruleErr_body {n : Int} {r : Ru} (h : headErr r = 0) : ruleErr n r = firstErr (slotErr n) r.slots := by simp [ruleErr, errFold, h]
set_option maxRecDepth 20000 in
set_option maxHeartbeats 3200000 in
theorem refrule_any (A : Option Addr) (c : Nat) (n : Nat) (r : Ru) (w : World) (hSl : RSl w A c r.slots) :
  Calls Tryz.prog 38 #[.agg #[.string r.before, .string r.after, .bool r.leaf, .slice A r.slots.length c], .int .i64 (n : Nat)] w (RetV w (.int .i64 (ruleErr n r))) := by
 have hsb := hSl.bound
 obtain ⟨lf, hlf⟩ : ∃ lf, r.leaf = lf := ⟨_, rfl⟩
 have hc := head_cases r
 rw [hlf] at hc ⊢
 have HLF := Lib.hid hlf
 clear hlf
 rcases hc with ⟨h1, he⟩ | ⟨h1, h2, he⟩ | ⟨h1, h2, h3, h4, he⟩ | ⟨h1, h2, h3, h4, he⟩ | ⟨h1, h2, h3, h4, he⟩
 ·have hE := Lib.hid (ruleErr_head (n := n) he (by decide))
  have d1 : decide (16 < r.before.size) = true := by simpa using h1
  go_enter Tryz.func38, Tryz.ntmps38
  go_wp2
  go_ret
  rw [hE.out]
  exact ⟨rfl, frx⟩
 ·have hE := Lib.hid (ruleErr_head (n := n) he (by decide))
  have d1 : decide (16 < r.before.size) = false := by simpa using h1
  have d2 : decide (16 < r.after.size) = true := by simpa using h2
  go_enter Tryz.func38, Tryz.ntmps38
  go_wp2
  go_ret
  rw [hE.out]
  exact ⟨rfl, frx⟩
 ·have hE := Lib.hid (ruleErr_head (n := n) he (by decide))
  have d1 : decide (16 < r.before.size) = false := by simpa using h1
  have d2 : decide (16 < r.after.size) = false := by simpa using h2
  subst h3
  have d3 : decide (0 < r.slots.length) = true := by simpa using h4
  go_enter Tryz.func38, Tryz.ntmps38
  go_wp2
  go_ret
  rw [hE.out]
  exact ⟨rfl, frx⟩
 ·have hE := Lib.hid (ruleErr_head (n := n) he (by decide))
  have d1 : decide (16 < r.before.size) = false := by simpa using h1
  have d2 : decide (16 < r.after.size) = false := by simpa using h2
  have d4 : decide (8 < r.slots.length) = true := by simpa using h4
  rcases h3 with rfl | ⟨rfl, h5⟩
  ·go_enter Tryz.func38, Tryz.ntmps38
   go_wp2
   go_ret
   rw [hE.out]
   exact ⟨rfl, frx⟩
  ·omega
 ·have hE := Lib.hid (ruleErr_body (n := n) he)
  have d1 : decide (16 < r.before.size) = false := by simpa using h1
  have d2 : decide (16 < r.after.size) = false := by simpa using h2
  have d4 : decide (8 < r.slots.length) = false := by simpa using h4
  have hB0 := Blk.new w 51 #[.string r.before, .string r.after, .bool lf, .slice A r.slots.length c] _ rfl
  have hF0 : Fr [] w (w.alloc (.cells #[.string r.before, .string r.after, .bool lf, .slice A r.slots.length c] 51)) := frx
  have d3 : lf = false ∨ (lf = true ∧ decide (0 < r.slots.length) = false) := by
   rcases h3 with h3 | ⟨h3, h5⟩
   ·exact .inl h3
   ·exact .inr ⟨h3, by simpa using h5⟩
  clear h3 he
  have h1 := h1
  rcases d3 with rfl | ⟨rfl, d3⟩
  all_goals
   go_enter Tryz.func38, Tryz.ntmps38
   go_wp2_with fail
   go_loopw [5] (fun i wr => ∃ k : Nat, k ≤ r.slots.length ∧ i = .int .i64 k ∧ Hid (firstErr (slotErr n) (r.slots.take k) = 0) ∧ (∃ lf, Blk wr w.heap.size 51 #[.string r.before, .string r.after, .bool lf, .slice A r.slots.length c]) ∧ Fr [] w wr) (fun i _ => r.slots.length - (intOf i).toNat)
   case atStart => exact ⟨0, Nat.zero_le _, rfl, rfl, ⟨_, hB0⟩, hF0⟩
   case round =>
    clear hB0 hF0
    obtain ⟨k, hk, rfl, hz, ⟨lf, hB⟩, hf⟩ := hrel
    have q3 := hB.cell 3 rfl
    by_cases hlt : k < r.slots.length
    ·obtain ⟨b2, off2, s, A4, c4, rfl, hs, hm, s0, s1, hks, s2⟩ := (hSl.fr0 hf).at_ hlt
     have hkb := hks.bound
     have hcut : Hid (slotErr n s ≠ 0 → firstErr (slotErr n) r.slots = slotErr n s) := fun h => first_cut hz.out hs h
     have hnxt : Hid (firstErr (slotErr n) (r.slots.take (k + 1)) = slotErr n s) := first_take hz.out hs
     have hsc := slot_cases n s
     obtain ⟨mv, hmv⟩ : ∃ mv, s.many = mv := ⟨_, rfl⟩
     rw [hmv] at hm s0 hsc
     clear hmv
     rcases hsc with ⟨h1, he⟩ | ⟨h1, h2, he⟩ | ⟨h1, h2, h3, he⟩ | ⟨h1, h2, h3, h4, he⟩ | ⟨h1, h2, h3, h4, he⟩
     ·have hEE := Lib.hid ((hcut.out (by rw [he]; decide)).trans he)
      have d5 : decide (2 < mv) = true := by simpa using h1
      go_wp2
      go_ret
      rw [hE.out, hEE.out]
      exact ⟨rfl, Fr.trans hf frx⟩
     ·have hEE := Lib.hid ((hcut.out (by rw [he]; decide)).trans he)
      have d5 : decide (2 < mv) = false := by simpa using h1
      have d6 : decide (16 < s.between.size) = true := by simpa using h2
      go_wp2
      go_ret
      rw [hE.out, hEE.out]
      exact ⟨rfl, Fr.trans hf frx⟩
     ·have hEE := Lib.hid ((hcut.out (by rw [he]; decide)).trans he)
      have d5 : decide (2 < mv) = false := by simpa using h1
      have d6 : decide (16 < s.between.size) = false := by simpa using h2
      have d7 : ((s.kinds.length : Int) == 0) = true := by simp [h3]
      have h3 := Lib.hid h3
      go_wp2
      go_ret
      rw [hE.out, hEE.out]
      exact ⟨rfl, Fr.trans hf frx⟩
     ·have hEE := Lib.hid ((hcut.out (by rw [he]; decide)).trans he)
      have d5 : decide (2 < mv) = false := by simpa using h1
      have d6 : decide (16 < s.between.size) = false := by simpa using h2
      have d7 : ((s.kinds.length : Int) == 0) = false := beq_false_of_ne (by omega)
      have h3 := Lib.hid h3
      have h4 := Lib.hid h4
      go_wp2_with fail
      refine (Set_any A4 c4 s.kinds n _ (hks.alloc _)).mono ?_
      rw [h4.out]
      rintro e w4 ⟨rfl, n4, rfl⟩
      go_wp2
      go_ret
      rw [hE.out, hEE.out]
      exact ⟨rfl, Fr.trans hf frx⟩
     ·have hEE : Hid (firstErr (slotErr n) (r.slots.take (k + 1)) = 0) := by show _ = _; rw [hnxt.out, he]
      have d5 : decide (2 < mv) = false := by simpa using h1
      have d6 : decide (16 < s.between.size) = false := by simpa using h2
      have d7 : ((s.kinds.length : Int) == 0) = false := beq_false_of_ne (by omega)
      have h3 := Lib.hid h3
      have h4 := Lib.hid h4
      go_wp2_with fail
      refine (Set_any A4 c4 s.kinds n _ (hks.alloc _)).mono ?_
      rw [h4.out]
      rintro e w4 ⟨rfl, n4, rfl⟩
      go_wp2
      go_roundw
      case rel => exact ⟨k + 1, by omega, by go_num, hEE, ⟨lf, (hB.alloc _).drewN _⟩, Fr.trans hf frx⟩
      case measure => simp [intOf]; omega
    ·have hEE : Hid (firstErr (slotErr n) r.slots = 0) := by
      have := hz.out
      rw [List.take_of_length_le (by omega)] at this
      exact this
     go_wp2
     go_ret
     rw [hE.out, hEE.out]
     exact ⟨rfl, hf⟩
end

/- CheckGrammar of the reference. -/
section
open Go.RowKit
theorem farK_big {g : List Ru} {L : List Int} {k : Nat} {x : Int} (hx : L[k]? = some x) (h : 1024 < x) : farK g L k = true := by simp [farK, getI_at hx, h]
theorem farK_deep {g : List Ru} {L : List Int} {k : Nat} {x : Int} (hx : L[k]? = some x) (h : ¬ 1024 < x) : farK g L k = decide (24 < (leastT g L k).depth) := by simp [farK, getI_at hx, h]
set_option maxRecDepth 20000 in
set_option maxHeartbeats 3200000 in
theorem refCheckGrammar_any (A : Option Addr) (c : Nat) (g : List Ru) (L : List Int) (w : World) (ha : RRu w A c g) (hL : rulesErr g = 0 → LOk g L) :
  Calls Tryz.prog 14 #[.agg #[.slice A g.length c]] w (RetV w (.int .i64 (chkG g L))) := by
 have hgb := ha.bound
 by_cases h0 : g.length = 0
 ·have hE := Lib.hid (chk_none (L := L) h0)
  have d0 : ((g.length : Int) == 0) = true := by simp [h0]
  go_enter Tryz.func14, Tryz.ntmps14
  go_wp2
  go_ret
  rw [hE.out]
  exact ⟨rfl, frx⟩
 have d0 : ((g.length : Int) == 0) = false := beq_false_of_ne (by omega)
 by_cases h1 : 32 < g.length
 ·have hE := Lib.hid (chk_many (L := L) h1)
  have h0 := Lib.hid h0
  go_enter Tryz.func14, Tryz.ntmps14
  go_wp2
  go_ret
  rw [hE.out]
  exact ⟨rfl, frx⟩
 have H0 := Lib.hid h0
 have H1 := Lib.hid h1
 have hB0 := Blk.new w 24 #[.slice A g.length c] _ rfl
 have hF0 : Fr [] w (w.alloc (.cells #[.slice A g.length c] 24)) := frx
 clear h0
 go_enter Tryz.func14, Tryz.ntmps14
 go_wp2_with fail
 clear h1
 go_loopw [3] (fun i wr => ∃ k : Nat, k ≤ g.length ∧ i = .int .i64 k ∧ Hid (firstErr (ruleErr g.length) (g.take k) = 0) ∧ Blk wr w.heap.size 24 #[.slice A g.length c] ∧ Fr [] w wr) (fun i _ => g.length - (intOf i).toNat)
 case atStart => exact ⟨0, Nat.zero_le _, rfl, rfl, hB0, hF0⟩
 case round =>
  clear hB0 hF0
  obtain ⟨k, hk, rfl, hz, hB, hf⟩ := hrel
  have q0 := hB.cell 0 rfl
  by_cases hlt : k < g.length
  ·obtain ⟨b, off, r, A1, c1, rfl, hr, e0, e1, e2, e3, hSl⟩ := ha.at_ hlt
   have e0 := hf.cell e0 (by simp)
   have e1 := hf.cell e1 (by simp)
   have e2 := hf.cell e2 (by simp)
   have e3 := hf.cell e3 (by simp)
   have hcut : Hid (ruleErr g.length r ≠ 0 → rulesErr g = ruleErr g.length r) := fun h => first_cut hz.out hr h
   have hnxt : Hid (firstErr (ruleErr g.length) (g.take (k + 1)) = ruleErr g.length r) := first_take hz.out hr
   obtain ⟨ev, hev⟩ : ∃ ev, ruleErr g.length r = ev := ⟨_, rfl⟩
   rw [hev] at hcut hnxt
   have HEV := Lib.hid hev
   clear hev
   go_wp2_with fail
   go_region_held3 (fun w' => w'.cell? ⟨w.heap.size, 0, none⟩ = some (.slice (some ⟨b, off, none⟩) g.length c) ∧ w'.cell? ⟨b, off + k * 4, none⟩ = some (.string r.before) ∧ w'.cell? ⟨b, off + k * 4 + 1, none⟩ = some (.string r.after) ∧ w'.cell? ⟨b, off + k * 4 + 2, none⟩ = some (.bool r.leaf) ∧ w'.cell? ⟨b, off + k * 4 + 3, none⟩ = some (.slice A1 r.slots.length c1))
    (first
     | (go_keep; done)
     | exact ⟨hFa.cell q0 (by simp), hFa.cell e0 (by simp), hFa.cell e1 (by simp), hFa.cell e2 (by simp), hFa.cell e3 (by simp)⟩)
    (first
     | (go_at_call 38; refine (refrule_any A1 c1 g.length r _ (hSl.fr0 (Fr.trans hf frx))).mono ?_; rw [HEV.out]; rintro e wa ⟨rfl, hfa⟩; have hFa : Fr [] wr wa := (Fr.trans frx hfa)))
   by_cases hez : ev = 0
   ·subst hez
    go_wp2_with fail
    go_roundw
    case rel => exact ⟨k + 1, by omega, by go_num, hnxt, hB.fr hFa (by simp), hf.trans hFa⟩
    case measure => simp [intOf]; omega
   ·have hEE := Lib.hid (hcut.out hez)
    have hE : Hid (chkG g L = ev) := by show _ = _; rw [chk_err H0.out H1.out (by rw [hEE.out]; exact hez), hEE.out]
    have hd : (ev != 0) = true := by simpa using hez
    have hez := Lib.hid hez
    go_wp2_with fail
    go_ret
    rw [hE.out]
    exact ⟨rfl, hf.trans hFa⟩
  ·have hre : Hid (rulesErr g = 0) := by
    have := hz.out
    rw [List.take_of_length_le (by omega)] at this
    exact this
   have hok := hL hre.out
   have hlen : Hid ((L.map dnI).length = g.length) := by show _ = _; rw [List.length_map]; exact hok.sz.1
   go_wp2_with fail
   refine (refsizes_any A c g L _ (ha.fr0 (Fr.trans hf frx)) (fun h => H0.out (by rw [h]; rfl)) (by have := H1.out; omega) hok.ok hok.sz hok.pos).mono ?_
   rintro e w5 ⟨A5, c5, rfl, hf5, hr5⟩
   rw [hlen.out]
   have hF5 : Fr [] w w5 := Fr.trans (Fr.trans hf frx) hf5
   have hB5 := hB.fr (Fr.trans frx hf5 : Fr [] wr w5) (by simp)
   clear hz hlt hB hf q0
   go_wp2_with fail
   go_loopw [6] (fun i wr => ∃ k : Nat, k ≤ g.length ∧ i = .int .i64 k ∧ Hid (∀ j, j < k → farK g L j = false) ∧ Blk wr w.heap.size 24 #[.slice A g.length c] ∧ Fr [] w5 wr) (fun i _ => g.length - (intOf i).toNat)
   case atStart => exact ⟨0, Nat.zero_le _, rfl, (fun j h => by omega), hB5, Fr.refl _ _⟩
   case round =>
    clear hB5
    obtain ⟨k, hk, rfl, hall, hB, hf⟩ := hrel
    have q0 := hB.cell 0 rfl
    have hFw := hF5.trans hf
    by_cases hlt : k < g.length
    ·obtain ⟨x, hx⟩ : ∃ x, L[k]? = some x := ⟨_, List.getElem?_eq_getElem (by have := hok.sz.1; omega)⟩
     have hx1 := hok.pos x (List.mem_of_getElem? hx)
     have hgx : getI L (k : Int) = x := getI_at hx
     have hr6 := hr5.fr0 hf
     obtain ⟨b1, o1, y, hA5, hy, hc1⟩ := hr6.at_ (k := k) (by rw [hlen.out]; exact hlt)
     subst hA5
     have hy2 : Hid (y = dnI x) := by
      have := hy.out
      rw [List.getElem?_map, hx] at this
      exact (Option.some.inj this).symm
     have hbig := Lib.hid (fun h => farK_big (g := g) hx h)
     have hdeep := Lib.hid (fun h => farK_deep (g := g) hx h)
     have HX := Lib.hid hx
     clear hx
     by_cases hxb : 1024 < x
     ·have hE := Lib.hid (chk_far (L := L) H0.out H1.out hre.out hlt (hbig.out hxb))
      have hyz : y = 0 := by rw [hy2.out]; unfold dnI; rw [if_neg (by omega)]
      subst hyz
      go_wp2
      go_ret
      rw [hE.out]
      exact ⟨rfl, hFw⟩
     ·have hyx : x = y := by rw [hy2.out]; unfold dnI; rw [if_pos (by omega)]
      subst hyx
      have d1 : (x == 0) = false := beq_false_of_ne (by omega)
      have hdp := Lib.hid (hdeep.out hxb)
      have hlt2 := Lib.hid hlt
      obtain ⟨m, hm⟩ : ∃ m : Nat, x.toNat = m := ⟨_, rfl⟩
      have hT : Hid (leastT g L (k : Int) = leastF g L m (k : Int)) := by show _ = _; unfold leastT; rw [hgx, hm]
      go_wp2_with fail
      refine (refleast_any A (some ⟨b1, o1, none⟩) c c5 g L hok m k _ (ha.fr0 (Fr.trans hFw frx)) (hr6.fr0 frx) hlt (by omega) (by omega)).mono ?_
      rw [← hT.out]
      rintro e w7 ⟨A7, c7, rfl, hf7, hR7⟩
      have hdl := hR7.depth_le
      go_wp2_with fail
      refine (refDepth_any m _ _ _ _ ⟨A7, c7, rfl, hR7⟩ (by omega)).mono ?_
      rintro e w8 ⟨rfl, hf8⟩
      have hF8 : Fr [] wr w8 := Fr.trans (Fr.trans frx hf7) hf8
      by_cases hdd : 24 < (leastT g L (k : Int)).depth
      ·have hE := Lib.hid (chk_far (L := L) H0.out H1.out hre.out hlt2.out (by rw [hdp.out]; simpa using hdd))
       generalize (leastT g L (k : Int)).depth = dp at *
       have d2 : decide (24 < dp) = true := by simpa using hdd
       go_wp2
       go_ret
       rw [hE.out]
       exact ⟨rfl, hFw.trans hF8⟩
      ·have hno : Hid (farK g L k = false) := by show _ = _; rw [hdp.out]; simpa using hdd
       have hall2 : Hid (∀ j, j < k + 1 → farK g L j = false) := fun j hj => by
        by_cases e : j = k
        ·subst e; exact hno.out
        ·exact hall.out j (by omega)
       generalize (leastT g L (k : Int)).depth = dp at *
       have d2 : decide (24 < dp) = false := by simpa using hdd
       go_wp2
       go_roundw
       case rel => exact ⟨k + 1, by omega, by go_num, hall2, hB.fr hF8 (by simp), hf.trans hF8⟩
       case measure => simp [intOf]; omega
    ·have hE := Lib.hid (chk_ok (L := L) H0.out H1.out hre.out (fun j hj => hall.out j (by omega)))
     go_wp2
     go_ret
     rw [hE.out]
     exact ⟨rfl, hFw⟩
end

/- CheckGrammar of the program. -/
section
open Go.RowKit
set_option maxRecDepth 20000 in
set_option maxHeartbeats 6400000 in
theorem CheckGrammar_any (A : Option Addr) (c : Nat) (g : List Ru) (L : List Int) (w : World) (ha : RRu w A c g) (hL : rulesErr g = 0 → LOk g L) :
  Calls Tryz.prog 49 #[.agg #[.slice A g.length c]] w (RetV w (.int .i64 (chkG g L))) := by
 have hgb := ha.bound
 by_cases h0 : g.length = 0
 ·have hE := Lib.hid (chk_none (L := L) h0)
  have d0 : ((g.length : Int) == 0) = true := by simp [h0]
  go_enter Tryz.func49, Tryz.ntmps49
  go_wp2
  go_ret
  rw [hE.out]
  exact ⟨rfl, frx⟩
 have d0 : ((g.length : Int) == 0) = false := beq_false_of_ne (by omega)
 by_cases h1 : 32 < g.length
 ·have hE := Lib.hid (chk_many (L := L) h1)
  have h0 := Lib.hid h0
  go_enter Tryz.func49, Tryz.ntmps49
  go_wp2
  go_ret
  rw [hE.out]
  exact ⟨rfl, frx⟩
 have H0 := Lib.hid h0
 have H1 := Lib.hid h1
 have hB0 := Blk.new w 24 #[.slice A g.length c] _ rfl
 have hF0 : Fr [] w (w.alloc (.cells #[.slice A g.length c] 24)) := frx
 clear h0
 go_enter Tryz.func49, Tryz.ntmps49
 go_wp2_with fail
 clear h1
 go_loopw [23] (fun i wr => ∃ k : Nat, k ≤ g.length ∧ i = .int .i64 k ∧ Hid (firstErr (ruleErr g.length) (g.take k) = 0) ∧ Blk wr w.heap.size 24 #[.slice A g.length c] ∧ Fr [] w wr) (fun i _ => g.length - (intOf i).toNat)
 case atStart => exact ⟨0, Nat.zero_le _, rfl, rfl, hB0, hF0⟩
 case round =>
  clear hB0 hF0
  obtain ⟨k, hk, rfl, hz, hB, hf⟩ := hrel
  have q0 := hB.cell 0 rfl
  by_cases hlt : k < g.length
  ·obtain ⟨b, off, r, A1, c1, rfl, hr, e0, e1, e2, e3, hSl⟩ := ha.at_ hlt
   have e0 := hf.cell e0 (by simp)
   have e1 := hf.cell e1 (by simp)
   have e2 := hf.cell e2 (by simp)
   have e3 := hf.cell e3 (by simp)
   have hsb := hSl.bound
   have hcut : Hid (ruleErr g.length r ≠ 0 → chkG g L = ruleErr g.length r) := fun h => by
    have h2 := first_cut hz.out hr h
    rw [chk_err H0.out H1.out (by show firstErr (ruleErr g.length) g ≠ 0; rw [h2]; exact h)]
    exact h2
   have hnxt : Hid (firstErr (ruleErr g.length) (g.take (k + 1)) = ruleErr g.length r) := first_take hz.out hr
   obtain ⟨lf, hlf⟩ : ∃ lf, r.leaf = lf := ⟨_, rfl⟩
   have hc := head_cases r
   rw [hlf] at hc e2
   clear hlf
   obtain ⟨W1, hW1⟩ : ∃ W, W = wr.alloc (.cells #[.string r.before, .string r.after, .bool lf, .slice A1 r.slots.length c1] 51) := ⟨_, rfl⟩
   have hf1 : Fr [] wr W1 := by rw [hW1]; exact frx
   have hB1 : Blk W1 wr.heap.size 51 #[.string r.before, .string r.after, .bool lf, .slice A1 r.slots.length c1] := by rw [hW1]; exact Blk.new _ _ _ _ rfl
   have hF1 := hf.trans hf1
   have hBg := hB.fr hf1 (by simp)
   have q3 := hB1.cell 3 rfl
   rw [hW1] at q3
   have HW1 := Lib.hid hW1.symm
   clear hW1
   rcases hc with ⟨h1, he⟩ | ⟨h1, h2, he⟩ | ⟨h1, h2, h3, h4, he⟩ | ⟨h1, h2, h3, h4, he⟩ | ⟨h1, h2, h3, h4, he⟩
   ·have hE := Lib.hid ((hcut.out (by rw [ruleErr_head he (by decide)]; decide)).trans (ruleErr_head he (by decide)))
    go_wp2
    go_ret
    rw [hE.out]
    exact ⟨rfl, Fr.trans hf frx⟩
   ·have hE := Lib.hid ((hcut.out (by rw [ruleErr_head he (by decide)]; decide)).trans (ruleErr_head he (by decide)))
    go_wp2
    go_ret
    rw [hE.out]
    exact ⟨rfl, Fr.trans hf frx⟩
   ·have hE := Lib.hid ((hcut.out (by rw [ruleErr_head he (by decide)]; decide)).trans (ruleErr_head he (by decide)))
    subst h3
    go_wp2
    go_ret
    rw [hE.out]
    exact ⟨rfl, Fr.trans hf frx⟩
   ·have hE := Lib.hid ((hcut.out (by rw [ruleErr_head he (by decide)]; decide)).trans (ruleErr_head he (by decide)))
    rcases h3 with rfl | ⟨rfl, h5⟩
    ·go_wp2
     go_ret
     rw [hE.out]
     exact ⟨rfl, Fr.trans hf frx⟩
    ·omega
   ·have hRE := Lib.hid (ruleErr_body (n := g.length) he)
    have d3 : lf = false ∨ (lf = true ∧ ¬ 0 < r.slots.length) := h3
    clear h3 he
    rcases d3 with rfl | ⟨rfl, d3⟩
    ·go_wp2_with fail
     rw [HW1.out]
     clear q3
     go_loopw [55] (fun i w2 => ∃ k2 : Nat, k2 ≤ r.slots.length ∧ i = .int .i64 k2 ∧ Hid (firstErr (slotErr g.length) (r.slots.take k2) = 0) ∧ Fr [] W1 w2) (fun i _ => r.slots.length - (intOf i).toNat)
     case atStart => exact ⟨0, Nat.zero_le _, rfl, rfl, Fr.refl _ _⟩
     case round =>
      obtain ⟨k2, hk2, rfl, hz2, hf2⟩ := hrel
      have hF2 := hF1.trans hf2
      have hBg2 := hBg.fr hf2 (by simp)
      have q0 := hBg2.cell 0 rfl
      have q0' := fun o => ((Fr.refl [] _).alloc o).cell q0 (by simp)
      by_cases hlt2 : k2 < r.slots.length
      ·obtain ⟨b2, off2, s, A4, c4, rfl, hs, hm, s0, s1, hks, s2⟩ := (hSl.fr0 hF2).at_ hlt2
       have hkb := hks.bound
       have hcut2 : Hid (slotErr g.length s ≠ 0 → chkG g L = slotErr g.length s) := fun h => by
        have h5 := first_cut hz2.out hs h
        have h6 : ruleErr g.length r = slotErr g.length s := hRE.out.trans h5
        rw [hcut.out (by rw [h6]; exact h), h6]
       have hnxt2 : Hid (firstErr (slotErr g.length) (r.slots.take (k2 + 1)) = slotErr g.length s) := first_take hz2.out hs
       have hsc := slot_cases g.length s
       obtain ⟨mv, hmv⟩ : ∃ mv, s.many = mv := ⟨_, rfl⟩
       rw [hmv] at hm s0 hsc
       clear hmv
       rcases hsc with ⟨g1, he⟩ | ⟨g1, g2, he⟩ | ⟨g1, g2, g3, he⟩ | ⟨g1, g2, g3, g4, he⟩ | ⟨g1, g2, g3, g4, he⟩
       ·have hEE := Lib.hid ((hcut2.out (by rw [he]; decide)).trans he)
        go_wp2
        go_ret
        rw [hEE.out]
        exact ⟨rfl, Fr.trans hF2 frx⟩
       ·have hEE := Lib.hid ((hcut2.out (by rw [he]; decide)).trans he)
        go_wp2
        go_ret
        rw [hEE.out]
        exact ⟨rfl, Fr.trans hF2 frx⟩
       ·have hEE := Lib.hid ((hcut2.out (by rw [he]; decide)).trans he)
        have d7 : ((s.kinds.length : Int) == 0) = true := by simp [g3]
        have g3 := Lib.hid g3
        go_wp2
        go_ret
        rw [hEE.out]
        exact ⟨rfl, Fr.trans hF2 frx⟩
       ·have hEE := Lib.hid ((hcut2.out (by rw [he]; decide)).trans he)
        have d7 : ((s.kinds.length : Int) == 0) = false := beq_false_of_ne (by omega)
        have g3 := Lib.hid g3
        have g4 := Lib.hid g4
        go_wp2_with fail
        refine (rising_any A4 c4 s.kinds g.length _ (hks.alloc _)).mono ?_
        rw [g4.out]
        rintro e w4 ⟨rfl, n4, rfl⟩
        go_wp2
        go_ret
        rw [hEE.out]
        exact ⟨rfl, Fr.trans hF2 frx⟩
       ·have hEE : Hid (firstErr (slotErr g.length) (r.slots.take (k2 + 1)) = 0) := by show _ = _; rw [hnxt2.out, he]
        have d7 : ((s.kinds.length : Int) == 0) = false := beq_false_of_ne (by omega)
        have g3 := Lib.hid g3
        have g4 := Lib.hid g4
        go_wp2_with fail
        refine (rising_any A4 c4 s.kinds g.length _ (hks.alloc _)).mono ?_
        rw [g4.out]
        rintro e w4 ⟨rfl, n4, rfl⟩
        go_wp2
        go_roundw
        case rel => exact ⟨k2 + 1, by omega, by go_num, hEE, Fr.trans hf2 frx⟩
        case measure => simp [intOf]; omega
      ·have hEE : Hid (firstErr (ruleErr g.length) (g.take (k + 1)) = 0) := by
        have := hz2.out
        rw [List.take_of_length_le (by omega)] at this
        show _ = _
        rw [hnxt.out, hRE.out]
        exact this
       go_wp2
       go_roundw
       case rel => exact ⟨k + 1, by omega, by go_num, hEE, hBg2, hF2⟩
       case measure => simp [intOf]; omega
    ·go_wp2_with fail
     rw [HW1.out]
     clear q3
     go_loopw [55] (fun i w2 => ∃ k2 : Nat, k2 ≤ r.slots.length ∧ i = .int .i64 k2 ∧ Hid (firstErr (slotErr g.length) (r.slots.take k2) = 0) ∧ Fr [] W1 w2) (fun i _ => r.slots.length - (intOf i).toNat)
     case atStart => exact ⟨0, Nat.zero_le _, rfl, rfl, Fr.refl _ _⟩
     case round =>
      obtain ⟨k2, hk2, rfl, hz2, hf2⟩ := hrel
      have hF2 := hF1.trans hf2
      have hBg2 := hBg.fr hf2 (by simp)
      have q0 := hBg2.cell 0 rfl
      have q0' := fun o => ((Fr.refl [] _).alloc o).cell q0 (by simp)
      by_cases hlt2 : k2 < r.slots.length
      ·exact absurd hlt2 (by omega)
      ·have hEE : Hid (firstErr (ruleErr g.length) (g.take (k + 1)) = 0) := by
        have := hz2.out
        rw [List.take_of_length_le (by omega)] at this
        show _ = _
        rw [hnxt.out, hRE.out]
        exact this
       go_wp2
       go_roundw
       case rel => exact ⟨k + 1, by omega, by go_num, hEE, hBg2, hF2⟩
       case measure => simp [intOf]; omega
  ·have hre : Hid (rulesErr g = 0) := by
    have := hz.out
    rw [List.take_of_length_le (by omega)] at this
    exact this
   have hok := hL hre.out
   have hlen : Hid (L.length = g.length) := hok.sz.1
   go_wp2_with fail
   refine (sizes_any A c g L _ (ha.fr0 (Fr.trans hf frx)) (fun h => H0.out (by rw [h]; rfl)) (by have := H1.out; omega) hok.ok hok.sz hok.pos).mono ?_
   rintro e w5 ⟨A5, c5, rfl, hf5, hr5⟩
   rw [hlen.out]
   have hF5 : Fr [] w w5 := Fr.trans (Fr.trans hf frx) hf5
   have hB5 := hB.fr (Fr.trans frx hf5 : Fr [] wr w5) (by simp)
   clear hz hlt hB hf q0
   go_wp2_with fail
   go_loopw [88] (fun i wr => ∃ k : Nat, k ≤ g.length ∧ i = .int .i64 k ∧ Hid (∀ j, j < k → farK g L j = false) ∧ Blk wr w.heap.size 24 #[.slice A g.length c] ∧ Fr [] w5 wr) (fun i _ => g.length - (intOf i).toNat)
   case atStart => exact ⟨0, Nat.zero_le _, rfl, (fun j h => by omega), hB5, Fr.refl _ _⟩
   case round =>
    clear hB5
    obtain ⟨k, hk, rfl, hall, hB, hf⟩ := hrel
    have q0 := hB.cell 0 rfl
    have hFw := hF5.trans hf
    by_cases hlt : k < g.length
    ·have hr6 := hr5.fr0 hf
     obtain ⟨b1, o1, x, hA5, hx, hc1⟩ := hr6.at_ (k := k) (by rw [hlen.out]; exact hlt)
     subst hA5
     have hx1 := hok.pos x (List.mem_of_getElem? hx.out)
     have hgx : getI L (k : Int) = x := getI_at hx.out
     have hbig := Lib.hid (fun h => farK_big (g := g) hx.out h)
     have hdeep := Lib.hid (fun h => farK_deep (g := g) hx.out h)
     by_cases hxb : 1024 < x
     ·have hE := Lib.hid (chk_far (L := L) H0.out H1.out hre.out hlt (hbig.out hxb))
      go_wp2
      go_ret
      rw [hE.out]
      exact ⟨rfl, hFw⟩
     ·have hdp := Lib.hid (hdeep.out hxb)
      have hlt2 := Lib.hid hlt
      obtain ⟨m, hm⟩ : ∃ m : Nat, x.toNat = m := ⟨_, rfl⟩
      have hT : Hid (leastT g L (k : Int) = leastF g L m (k : Int)) := by show _ = _; unfold leastT; rw [hgx, hm]
      go_wp2_with fail
      refine (least_any A (some ⟨b1, o1, none⟩) c c5 g L hok m k _ (ha.fr0 (Fr.trans hFw frx)) (hr6.fr0 frx) hlt (by omega) (by unfold MUCH; omega)).mono ?_
      rw [← hT.out]
      rintro e w7 ⟨A7, c7, rfl, hf7, hR7⟩
      have hdl := hR7.depth_le
      go_wp2_with fail
      refine (depth_any m _ _ _ _ ⟨A7, c7, rfl, hR7⟩ (by omega)).mono ?_
      rintro e w8 ⟨rfl, hf8⟩
      have hF8 : Fr [] wr w8 := Fr.trans (Fr.trans frx hf7) hf8
      by_cases hdd : 24 < (leastT g L (k : Int)).depth
      ·have hE := Lib.hid (chk_far (L := L) H0.out H1.out hre.out hlt2.out (by rw [hdp.out]; simpa using hdd))
       generalize (leastT g L (k : Int)).depth = dp at *
       go_wp2
       go_ret
       rw [hE.out]
       exact ⟨rfl, hFw.trans hF8⟩
      ·have hno : Hid (farK g L k = false) := by show _ = _; rw [hdp.out]; simpa using hdd
       have hall2 : Hid (∀ j, j < k + 1 → farK g L j = false) := fun j hj => by
        by_cases e : j = k
        ·subst e; exact hno.out
        ·exact hall.out j (by omega)
       generalize (leastT g L (k : Int)).depth = dp at *
       go_wp2
       go_roundw
       case rel => exact ⟨k + 1, by omega, by go_num, hall2, hB.fr hF8 (by simp), hf.trans hF8⟩
       case measure => simp [intOf]; omega
    ·have hE := Lib.hid (chk_ok (L := L) H0.out H1.out hre.out (fun j hj => hall.out j (by omega)))
     go_wp2
     go_ret
     rw [hE.out]
     exact ⟨rfl, hFw⟩
end

/- CheckTree and Least of both. -/
section
open Go.RowKit
def chkT (g : List Ru) (L : List Int) (t : T) : Int := if chkG g L ≠ 0 then chkG g L else if 1024 < t.nodes ∨ 24 < t.depth then 3 else nodeErr g t
theorem chkT_g {g : List Ru} {L : List Int} {t : T} (h : chkG g L ≠ 0) : chkT g L t = chkG g L := if_pos h
theorem chkT_big {g : List Ru} {L : List Int} {t : T} (h : chkG g L = 0) (h1 : 1024 < t.nodes ∨ 24 < t.depth) : chkT g L t = 3 := by unfold chkT; rw [if_neg (by simp [h]), if_pos h1]
theorem chkT_node {g : List Ru} {L : List Int} {t : T} (h : chkG g L = 0) (h1 : ¬ (1024 < t.nodes ∨ 24 < t.depth)) : chkT g L t = nodeErr g t := by unfold chkT; rw [if_neg (by simp [h]), if_neg h1]
set_option maxRecDepth 20000 in
set_option maxHeartbeats 3200000 in
theorem CheckTree_any (A : Option Addr) (c : Nat) (g : List Ru) (L : List Int) (n : Nat) (t : T) (v : Value) (S : Nat → Prop) (w : World) (ha : RRu w A c g) (hL : rulesErr g = 0 → LOk g L) (ht : RT S n w v t) (hn : t.nodes ≤ 1024) :
  Calls Tryz.prog 25 #[.agg #[.slice A g.length c], v] w (RetV w (.int .i64 (chkT g L t))) := by
 obtain ⟨AT, cT, rfl, hR⟩ := ht
 have hB1 := (Blk.new w 24 #[.slice A g.length c] _ rfl).alloc (.cells (tcells t AT cT) 27)
 have hB2 := Blk.new (w.alloc (.cells #[.slice A g.length c] 24)) 27 (tcells t AT cT) (w.heap.size + 1) (by simp)
 obtain ⟨W, hW⟩ : ∃ W, W = (w.alloc (.cells #[.slice A g.length c] 24)).alloc (.cells (tcells t AT cT) 27) := ⟨_, rfl⟩
 rw [← hW] at hB1 hB2
 have hF : Fr [] w W := by rw [hW]; exact frx
 have q0 := hB1.cell 0 rfl
 rw [hW] at q0
 have HW := Lib.hid hW.symm
 clear hW
 go_enter Tryz.func25, Tryz.ntmps25
 go_wp2_with fail
 rw [HW.out]
 clear q0
 refine (CheckGrammar_any A c g L _ (ha.fr0 hF) hL).mono ?_
 rintro e w1 ⟨rfl, hf1⟩
 have hB1 := hB1.fr hf1 (by simp)
 have hB2 := hB2.fr hf1 (by simp)
 have q0 := hB1.cell 0 rfl
 have p0 := hB2.cell 0 rfl
 have p1 := hB2.cell 1 rfl
 have p2 := hB2.cell 2 rfl
 have hF1 := hF.trans hf1
 by_cases hez : chkG g L = 0
 ·have hcn := Lib.hid (chkT_node (t := t) hez)
  have hcb := Lib.hid (chkT_big (t := t) hez)
  have HEZ := Lib.hid hez
  rw [hez]
  clear hez
  go_wp2_with fail
  refine (measure_any n t _ S _ 1 1024 ⟨AT, cT, rfl, hR.fr0 hF1⟩ (by omega) (by omega) (by omega)).mono ?_
  rintro e w2 ⟨q, rfl, hq1, hq2, hf2⟩
  have hB1 := hB1.fr hf2 (by simp)
  have hB2 := hB2.fr hf2 (by simp)
  have q0 := hB1.cell 0 rfl
  have p0 := hB2.cell 0 rfl
  have p1 := hB2.cell 1 rfl
  have p2 := hB2.cell 2 rfl
  have hF2 := hF1.trans hf2
  by_cases hfar : 24 < t.depth
  ·have hE := Lib.hid (hcb.out (.inr hfar))
   have hd : decide (25 < t.depth + 1) = true := by simp; omega
   rw [hd]
   clear hd
   go_wp2
   go_ret
   rw [hE.out]
   exact ⟨rfl, hF2⟩
  ·have hE := Lib.hid (hcn.out (by omega))
   have hd : decide (25 < t.depth + 1) = false := by simp; omega
   rw [hd]
   clear hd
   have hqd : ¬ 1024 < q := by omega
   go_wp2_with fail
   refine (checkNode_any A c g (by have := chk_zero HEZ.out; omega) n t _ S _ (ha.fr0 hF2) ⟨AT, cT, rfl, hR.fr0 hF2⟩).mono ?_
   rintro e w3 ⟨rfl, hf3⟩
   go_wp2
   go_ret
   rw [hE.out]
   exact ⟨rfl, hF2.trans hf3⟩
 ·have hE := Lib.hid (chkT_g (t := t) hez)
  have hd : (chkG g L != 0) = true := by simpa using hez
  have hez := Lib.hid hez
  generalize chkG g L = ev at *
  go_wp2
  go_ret
  rw [hE.out]
  exact ⟨rfl, hF1⟩
set_option maxRecDepth 20000 in
set_option maxHeartbeats 3200000 in
theorem refCheckTree_any (A : Option Addr) (c : Nat) (g : List Ru) (L : List Int) (n : Nat) (t : T) (v : Value) (S : Nat → Prop) (w : World) (ha : RRu w A c g) (hL : rulesErr g = 0 → LOk g L) (ht : RT S n w v t) (hn : t.nodes ≤ 1000000) :
  Calls Tryz.prog 6 #[.agg #[.slice A g.length c], v] w (RetV w (.int .i64 (chkT g L t))) := by
 obtain ⟨AT, cT, rfl, hR⟩ := ht
 have hdn := depth_le_nodes t
 have hB1 := (Blk.new w 24 #[.slice A g.length c] _ rfl).alloc (.cells (tcells t AT cT) 27)
 have hB2 := Blk.new (w.alloc (.cells #[.slice A g.length c] 24)) 27 (tcells t AT cT) (w.heap.size + 1) (by simp)
 obtain ⟨W, hW⟩ : ∃ W, W = (w.alloc (.cells #[.slice A g.length c] 24)).alloc (.cells (tcells t AT cT) 27) := ⟨_, rfl⟩
 rw [← hW] at hB1 hB2
 have hF : Fr [] w W := by rw [hW]; exact frx
 have q0 := hB1.cell 0 rfl
 rw [hW] at q0
 have HW := Lib.hid hW.symm
 clear hW
 go_enter Tryz.func6, Tryz.ntmps6
 go_wp2_with fail
 rw [HW.out]
 clear q0
 refine (refCheckGrammar_any A c g L _ (ha.fr0 hF) hL).mono ?_
 rintro e w1 ⟨rfl, hf1⟩
 have hB1 := hB1.fr hf1 (by simp)
 have hB2 := hB2.fr hf1 (by simp)
 have q0 := hB1.cell 0 rfl
 have p0 := hB2.cell 0 rfl
 have p1 := hB2.cell 1 rfl
 have p2 := hB2.cell 2 rfl
 have hF1 := hF.trans hf1
 by_cases hez : chkG g L = 0
 ·have hcn := Lib.hid (chkT_node (t := t) hez)
  have hcb := Lib.hid (chkT_big (t := t) hez)
  have HEZ := Lib.hid hez
  rw [hez]
  clear hez
  go_wp2_with fail
  refine (refNodes_any n t _ S _ ⟨AT, cT, rfl, hR.fr0 hF1⟩ (by omega)).mono ?_
  rintro e w2 ⟨rfl, hf2⟩
  have hB1 := hB1.fr hf2 (by simp)
  have hB2 := hB2.fr hf2 (by simp)
  have q0 := hB1.cell 0 rfl
  have p0 := hB2.cell 0 rfl
  have p1 := hB2.cell 1 rfl
  have p2 := hB2.cell 2 rfl
  have hF2 := hF1.trans hf2
  by_cases hbig : 1024 < t.nodes
  ·have hE := Lib.hid (hcb.out (.inl hbig))
   go_wp2
   go_ret
   rw [hE.out]
   exact ⟨rfl, hF2⟩
  ·go_wp2_with fail
   refine (refDepth_any n t _ S _ ⟨AT, cT, rfl, hR.fr0 hF2⟩ (by omega)).mono ?_
   rintro e w3 ⟨rfl, hf3⟩
   have hB1 := hB1.fr hf3 (by simp)
   have hB2 := hB2.fr hf3 (by simp)
   have q0 := hB1.cell 0 rfl
   have p0 := hB2.cell 0 rfl
   have p1 := hB2.cell 1 rfl
   have p2 := hB2.cell 2 rfl
   have hF3 := hF2.trans hf3
   by_cases hfar : 24 < t.depth
   ·have hE := Lib.hid (hcb.out (.inr hfar))
    go_wp2
    go_ret
    rw [hE.out]
    exact ⟨rfl, hF3⟩
   ·have hE := Lib.hid (hcn.out (by omega))
    go_wp2_with fail
    refine (refnode_any A c g (by have := chk_zero HEZ.out; omega) n t _ S _ (ha.fr0 hF3) ⟨AT, cT, rfl, hR.fr0 hF3⟩).mono ?_
    rintro e w4 ⟨rfl, hf4⟩
    go_wp2
    go_ret
    rw [hE.out]
    exact ⟨rfl, hF3.trans hf4⟩
 ·have hE := Lib.hid (chkT_g (t := t) hez)
  have hd : (chkG g L != 0) = true := by simpa using hez
  have hez := Lib.hid hez
  generalize chkG g L = ev at *
  go_wp2
  go_ret
  rw [hE.out]
  exact ⟨rfl, hF1⟩
end

/- Least of both. -/
section
open Go.RowKit
def zeroT : T := .mk 0 emptyS []
def leastOf (g : List Ru) (L : List Int) (kind : Int) : T × Int := if chkG g L ≠ 0 then (zeroT, chkG g L) else if kind < 0 ∨ (g.length : Int) ≤ kind then (zeroT, 1) else (leastT g L kind, 0)
def RetTE (n : Nat) (w : World) (r : T × Int) (e : Ending) (w' : World) : Prop := ∃ A c, e = .returned (.tuple #[.agg (tcells r.1 A c), .int .i64 r.2]) ∧ Fr [] w w' ∧ RH (fun k => k < w.heap.size) n w' A c r.1
theorem zeroT_at (S : Nat → Prop) (n : Nat) (w : World) : RH S (n + 1) w none 0 zeroT := show RowsB _ _ w none 0 [] from ⟨Nat.le_refl _, by unfold maxLen; omega, by simp⟩
theorem zeroT_ret {w w' : World} {g : Nat} {e : Int} (hf : Fr [] w w') (hg : w.heap.size ≤ g) (n : Nat) : RetTE (n + 1) w (zeroT, e) (.returned (.tuple #[.agg #[.int .i64 0, .string emptyS, .slice none 0 0], .int .i64 e])) (((w'.setCell ⟨g, 0, none⟩ (.int .i64 0)).setCell ⟨g, 1, none⟩ (.string emptyS)).setCell ⟨g, 2, none⟩ (.slice none 0 0)) :=
 ⟨none, 0, rfl, fr_three hf (.inr hg) _ _ _, zeroT_at _ _ _⟩
section
variable {g : List Ru} {L : List Int} {k : Int}
theorem leastOf_g (h : chkG g L ≠ 0) : leastOf g L k = (zeroT, chkG g L) := if_pos h
theorem leastOf_k (h : chkG g L = 0) (h1 : k < 0 ∨ (g.length : Int) ≤ k) : leastOf g L k = (zeroT, 1) := by unfold leastOf; rw [if_neg (by simp [h]), if_pos h1]
theorem leastOf_ok (h : chkG g L = 0) (h1 : ¬ (k < 0 ∨ (g.length : Int) ≤ k)) : leastOf g L k = (leastT g L k, 0) := by unfold leastOf; rw [if_neg (by simp [h]), if_neg h1]
end
theorem chk_sz {g : List Ru} {L : List Int} {k : Nat} (h : chkG g L = 0) (hL : rulesErr g = 0 → LOk g L) (hk : k < g.length) : LOk g L ∧ getI L k ≤ 1024 ∧ g ≠ [] ∧ g.length ≤ 32 := by
 obtain ⟨h0, h1, h2, h3⟩ := chk_zero h
 have h4 := h3 k hk
 unfold farK at h4
 have h5 := (Bool.or_eq_false_iff.1 h4).1
 simp at h5
 exact ⟨hL h2, h5, fun hn => h0 (by rw [hn]; rfl), h1⟩
set_option maxRecDepth 20000 in
set_option maxHeartbeats 3200000 in
theorem Least_any (A : Option Addr) (c : Nat) (g : List Ru) (L : List Int) (kind : Int) (w : World) (ha : RRu w A c g) (hL : rulesErr g = 0 → LOk g L) :
  Calls Tryz.prog 21 #[.agg #[.slice A g.length c], .int .i64 kind] w (RetTE 1025 w (leastOf g L kind)) := by
 obtain ⟨W, hW⟩ : ∃ W, W = (w.alloc (.cells #[.slice A g.length c] 24)).alloc (.cells #[.int .i64 0, .string emptyS, .slice none 0 0] 27) := ⟨_, rfl⟩
 have hF : Fr [] w W := by rw [hW]; exact frx
 have hB1 : Blk W w.heap.size 24 #[.slice A g.length c] := by rw [hW]; exact (Blk.new w _ _ _ rfl).alloc _
 have hB2 : Blk W (w.heap.size + 1) 27 #[.int .i64 0, .string emptyS, .slice none 0 0] := by rw [hW]; exact Blk.new _ _ _ _ (by simp)
 have q0 := hB1.cell 0 rfl
 rw [hW] at q0
 have HW := Lib.hid hW.symm
 clear hW
 go_enter Tryz.func21, Tryz.ntmps21
 go_wp2_with fail
 rw [HW.out]
 clear q0
 refine (CheckGrammar_any A c g L _ (ha.fr0 hF) hL).mono ?_
 rintro e w1 ⟨rfl, hf1⟩
 have hB1 := hB1.fr hf1 (by simp)
 have hB2 := hB2.fr hf1 (by simp)
 have q0 := hB1.cell 0 rfl
 have u0 := hB2.cell 0 rfl
 have u1 := hB2.cell 1 rfl
 have u2 := hB2.cell 2 rfl
 have v0 := hB2.frozen 0
 have v1 := hB2.frozen 1
 have v2 := hB2.frozen 2
 have hF1 := hF.trans hf1
 by_cases hez : chkG g L = 0
 ·have hbad := Lib.hid (fun h => leastOf_k (k := kind) hez h)
  have hgood := Lib.hid (fun h => leastOf_ok (k := kind) hez h)
  have hsz := Lib.hid (fun k hk => chk_sz (k := k) hez hL hk)
  rw [hez]
  clear hez
  by_cases hk0 : kind < 0
  ·have hE := Lib.hid (hbad.out (.inl hk0))
   go_wp2_with fail
   refine bodyPost_ret (results_tree2 rfl _ _ (w.heap.size + 1) rfl (hB2.three _ _ _)) rfl ?_
   rw [hE.out]
   exact zeroT_ret hF1 (by omega) _
  by_cases hk1 : (g.length : Int) ≤ kind
  ·have hE := Lib.hid (hbad.out (.inr hk1))
   go_wp2_with fail
   refine bodyPost_ret (results_tree2 rfl _ _ (w.heap.size + 1) rfl (hB2.three _ _ _)) rfl ?_
   rw [hE.out]
   exact zeroT_ret hF1 (by omega) _
  have hE := Lib.hid (hgood.out (by omega))
  obtain ⟨k, rfl⟩ : ∃ k : Nat, kind = k := ⟨kind.toNat, by omega⟩
  obtain ⟨hok, hle, hne, h32⟩ := hsz.out k (by omega)
  have hkl : k < g.length := by omega
  have hlen : Hid (L.length = g.length) := hok.sz.1
  obtain ⟨m, hm⟩ : ∃ m : Nat, (getI L (k : Int)).toNat = m := ⟨_, rfl⟩
  have hT : Hid (leastT g L (k : Int) = leastF g L m (k : Int)) := by show _ = _; unfold leastT; rw [hm]
  go_wp2_with fail
  go_region_held3 (fun w' => w'.cell? ⟨w.heap.size, 0, none⟩ = some (.slice A g.length c))
   (first
    | (go_keep; done)
    | exact hFa.cell q0 (by simp)
    | exact hFb.cell q0 (by simp)
    | exact (fr_three (S := [w.heap.size + 1]) (hFb.mono (by simp)) (.inl (by simp)) _ _ _).cell q0 (by simp))
   (first
    | (go_at_call 43; refine (sizes_any A c g L _ (ha.fr0 (Fr.trans hF1 frx)) hne h32 hok.ok hok.sz hok.pos).mono ?_; rintro e wa ⟨A5, c5, rfl, hfa, hr5⟩; rw [hlen.out]; have hFa : Fr [] w1 wa := (Fr.trans frx hfa))
    | (go_at_call 50; refine (least_any A A5 c c5 g L hok m k _ (ha.fr0 (Fr.trans hF1 (Fr.trans hFa frx))) (hr5.fr0 frx) hkl (by omega) (by unfold MUCH; omega)).mono ?_; rw [← hT.out]; rintro e wb ⟨A7, c7, rfl, hfb, hR7⟩; have hFb : Fr [] w1 wb := (Fr.trans hFa (Fr.trans frx hfb)); have hBb := hB2.fr hFb (by simp); have u0 := hBb.cell 0 rfl; have u1 := hBb.cell 1 rfl; have u2 := hBb.cell 2 rfl; have v0 := hBb.frozen 0; have v1 := hBb.frozen 1; have v2 := hBb.frozen 2))
  go_wp2_with fail
  refine bodyPost_ret (results_tree2 rfl _ _ (w.heap.size + 1) rfl (hBb.three _ _ _)) rfl ?_
  rw [hE.out]
  have hz := (hF1.trans hFa).size
  refine ⟨A7, c7, rfl, fr_three (hF1.trans hFb) (.inr (by omega)) _ _ _, ?_⟩
  have hz2 := hB2.lt
  have hz3 := hFa.size
  exact ((hR7.sub (S' := fun k => k < w.heap.size + 2) fun k _ hk => by have hk : k < w.heap.size + 2 := hk; show k < wa.heap.size; omega).fr (fr_three (S := [w.heap.size + 1]) (Fr.refl _ _) (.inl (by simp)) _ _ _) (by simp)).sub (fun k _ hk => by have hk : k < w.heap.size := hk; show k < w.heap.size + 2; omega) |>.mono (by omega)
 ·have hE := Lib.hid (leastOf_g (k := kind) hez)
  have hd : (chkG g L != 0) = true := by simpa using hez
  have hez := Lib.hid hez
  generalize chkG g L = ev at *
  go_wp2_with fail
  refine bodyPost_ret (results_tree2 rfl _ _ (w.heap.size + 1) rfl (hB2.three _ _ _)) rfl ?_
  rw [hE.out]
  exact zeroT_ret hF1 (by omega) _
end

/- spots of the program. -/
section
open Go.RowKit
theorem elemSp : Elem Tryz.prog 83 86 (.agg #[.int .i64 0, .string ⟨#[]⟩, .slice none 0 0, .int .u8 0, .slice none 0 0, .string ⟨#[]⟩, .int .i64 0, .int .i64 0]) 8 112 := ⟨Tryz.underlying83, by kernel_rfl, by kernel_rfl, by omega, by omega⟩
def RetSp (base n : Nat) (w : World) (l : List Sp) (e : Ending) (w' : World) : Prop :=
 ∃ (A : Option Addr) (c : Nat) (G : List SpH), e = .returned (.slice A l.length c) ∧ Fr [] w w' ∧ G.map (·.1) = l ∧ w'.ownsRow w.heap.size 86 8 (.slice A l.length c) l.length (G.flatMap encS) ∧ ∀ p ∈ G, SpOk base n w' p
set_option maxRecDepth 20000 in
set_option maxHeartbeats 6400000 in
theorem spots_any (A : Option Addr) (c : Nat) (g : List Ru) (w0 : World) (ha : RRu w0 A c g) (base : Nat) (hb0 : w0.heap.size ≤ base) (n : Nat) : ∀ (t : T) (AT : Option Addr) (cT : Nat) (w : World) (s : Sl) (B : Option Addr) (cb : Nat) (d : Int),
    Fr [] w0 w → base ≤ w.heap.size → RH (fun k => base ≤ k) n w AT cT t → Rd w (.int .i64) B cb s.kinds → (∀ a, B = some a → 0 < s.kinds.length → a.block < base) → Val g t → t.nodes ≤ 1024 → 0 ≤ d → d + t.nodes ≤ 100000 →
    Calls Tryz.prog 44 #[.agg #[.slice A g.length c], .agg (tcells t AT cT), .agg #[.int .u8 s.many, .slice B s.kinds.length cb, .string s.between], .int .i64 d] w (RetSp base n w (spotsT g t s d)) := by
  induction n with
  | zero => intro t AT cT w s B cb d _ _ h; exact absurd h id
  | succ n ih =>
    intro t AT cT w s B cb d hf0 hbw hR hks hlow hval hn hd0 hd
    have hRR := hR
    have hR : RowsB (fun k => base ≤ k) (fun A c x => RH (fun k => base ≤ k) n w A c x) w AT cT t.slots := hR
    have hl1 := hR.bound
    have hgb := ha.bound
    obtain ⟨r, hru, h16, hlen, _, _, hsub⟩ := val_parts hval
    obtain ⟨kk, hkk, hgk, hkl⟩ := ruleAt_some hru
    obtain ⟨b, off, r', A1, c1, rfl, hr, e0, e1, e2, e3, hSl⟩ := ha.at_ hkl
    obtain rfl : r = r' := Option.some.inj (hgk.symm.trans hr.out)
    have hsb := hSl.bound
    have hbl0 := World.block_lt_of_cell? w0 _ e3
    have HU := Lib.hid hru
    have HEQ := Lib.hid (spotsT_eq g t s d)
    have HRT := Lib.hid (restT_eq hru d)
    have HLEN := Lib.hid hlen
    have HSUB := Lib.hid hsub
    have hnl := spots_len t hval s d
    rw [HEQ.out, List.length_cons, HRT.out] at hnl
    have HTOT : Hid (∀ i, ((r.slots.zip t.slots).take i |>.foldl (spotP g d) []).length + 1 ≤ t.nodes) := fun i => by
      have := fold_take_le (m := List.length) (spot_in_len (g := g) d) (r.slots.zip t.slots) [] i
      omega
    rw [show tcells t AT cT = #[.int .i64 kk, .string t.text, .slice AT t.slots.length cT] by unfold tcells; rw [hkk]]
    have hN := Lib.hid hnl
    have HKK := Lib.hid hkk
    clear hru hval hgk hkk hsub hlen hnl
    obtain ⟨W3, hW3⟩ : ∃ W, W = (((w.alloc (.cells #[.slice (some ⟨b, off, none⟩) g.length c] 24)).alloc (.cells #[.int .i64 kk, .string t.text, .slice AT t.slots.length cT] 27)).alloc (.cells #[.int .u8 s.many, .slice B s.kinds.length cb, .string s.between] 55)) := ⟨_, rfl⟩
    have hF3 : Fr [] w W3 := by rw [hW3]; exact frx
    have hB1 : Blk W3 w.heap.size 24 #[.slice (some ⟨b, off, none⟩) g.length c] := by rw [hW3]; exact ((Blk.new w _ _ _ rfl).alloc _).alloc _
    have hB2 : Blk W3 (w.heap.size + 1) 27 #[.int .i64 kk, .string t.text, .slice AT t.slots.length cT] := by rw [hW3]; exact (Blk.new _ _ _ _ (by simp)).alloc _
    have hB3 : Blk W3 (w.heap.size + 1 + 1) 55 #[.int .u8 s.many, .slice B s.kinds.length cb, .string s.between] := by rw [hW3]; exact Blk.new _ _ _ _ (by simp)
    have HZ3 : Hid (W3.heap.size = w.heap.size + 1 + 1 + 1) := by show _ = _; rw [hW3]; simp
    have p2 := (hB2.alloc (.cells (encS (⟨t, s, d, 0⟩, (AT, cT), (B, cb))).toArray 86)).cell 2 rfl
    have hI0 : (W3.alloc (.cells (encS (⟨t, s, d, 0⟩, (AT, cT), (B, cb))).toArray 86)).ownsRow (w.heap.size + 1 + 1 + 1) 86 8 (.slice (some ⟨w.heap.size + 1 + 1 + 1, 0, none⟩) 1 1) 1 (encS (⟨t, s, d, 0⟩, (AT, cT), (B, cb))) :=
      own_one_g _ _ HZ3.out.symm rfl
    obtain ⟨W4, hW4⟩ : ∃ W, W = W3.alloc (.cells #[.int .i64 kk, .string t.text, .slice AT t.slots.length cT, .int .u8 s.many, .slice B s.kinds.length cb, .string s.between, .int .i64 d, .int .i64 0] 86) := ⟨_, rfl⟩
    have hW4' : W4 = W3.alloc (.cells (encS (⟨t, s, d, 0⟩, (AT, cT), (B, cb))).toArray 86) := by
      rw [hW4]
      simp only [encS, HKK.out]
      rfl
    rw [← hW4'] at hI0 p2
    have hf34 : Fr [] W3 W4 := by rw [hW4]; exact frx
    have hOK0 : SpOk base (n + 1) W4 (⟨t, s, d, 0⟩, (AT, cT), (B, cb)) := ⟨hRR.fr0 (hF3.trans hf34), hks.fr0 (hF3.trans hf34), hlow⟩
    have HW3 := Lib.hid hW3.symm
    have HW4 := Lib.hid hW4.symm
    have p2' := p2
    rw [hW4, hW3] at p2'
    clear hW3 hW4 hW4'
    go_enter Tryz.func44, Tryz.ntmps44
    go_wp2_with fail
    rw [HW3.out, HW4.out]
    have hB14 := hB1.fr hf34 (by simp)
    have hB24 := hB2.fr hf34 (by simp)
    have hF4 := hF3.trans hf34
    clear p2' hf34 hB1 hB2 hB3 hF3
    go_loopw [9, 22] (fun ov i wr => ∃ (k : Nat) (A9 : Option Addr) (c9 : Nat) (G : List SpH), k ≤ t.slots.length ∧ i = .int .i64 k ∧ ov = .slice A9 G.length c9 ∧ Hid (G.map (·.1) = ⟨t, s, d, 0⟩ :: ((r.slots.zip t.slots).take k).foldl (spotP g d) []) ∧
      wr.ownsRow (w.heap.size + 1 + 1 + 1) 86 8 (.slice A9 G.length c9) G.length (G.flatMap encS) ∧ Hid (∀ p ∈ G, SpOk base (n + 1) wr p) ∧ Blk wr w.heap.size 24 #[.slice (some ⟨b, off, none⟩) g.length c] ∧
      Blk wr (w.heap.size + 1) 27 #[.int .i64 kk, .string t.text, .slice AT t.slots.length cT] ∧ Fr [] w wr) (fun _ i _ => t.slots.length - (intOf i).toNat)
    case atStart => exact ⟨0, _, _, [(⟨t, s, d, 0⟩, (AT, cT), (B, cb))], Nat.zero_le _, rfl, rfl, rfl, by simpa using hI0, (fun p hp => by rw [List.mem_singleton.1 hp]; exact hOK0), hB14, hB24, hF4⟩
    case round =>
      clear hI0 hOK0 hB14 hB24 hF4 p2
      obtain ⟨k, A9, c9, G, hk, rfl, rfl, hGm, hG, hGo, hB1, hB2, hf⟩ := hrel
      have hbk := HTOT.out k
      by_cases hlt : k < t.slots.length
      · obtain ⟨b2, off2, s', A4, c4, rfl, hs, hm, s0, s1, hks', s2⟩ := hSl.at_ (k := k) (by rw [← HLEN.out]; exact hlt)
        have hkr : k < r.slots.length := by rw [← HLEN.out]; exact hlt
        have hb2l := World.block_lt_of_cell? w0 _ s0
        obtain ⟨b4, off4, q, A5, c5, rfl, hq, hc, hRow, hlq⟩ := hR.at_ (i := k) hlt
        have hc := hf.cell hc (by simp)
        have hz : (r.slots.zip t.slots)[k]? = some (s', q) := zip_at hs hq
        have HZP := Lib.hid (fold_take (f := spotP g d) (b := []) (show Hid _ from hz))
        have hbk1 := HTOT.out (k + 1)
        rw [HZP.out] at hbk1
        have HQ := Lib.hid (HSUB.out q (List.mem_of_getElem? hq.out))
        have hlow' : Hid (∀ a, A4 = some a → 0 < s'.kinds.length → a.block < base) := fun a h h0 => Nat.lt_of_lt_of_le (hks'.lt h0 a h) hb0
        clear hz
        generalize ((r.slots.zip t.slots).take k).foldl (spotP g d) [] = out at *
        go_wp2_with fail
        go_loopw [9, 29] (fun ov j wr => ∃ (m : Nat) (A9 : Option Addr) (c9 : Nat) (G : List SpH), m ≤ q.length ∧ j = .int .i64 m ∧ ov = .slice A9 G.length c9 ∧ Hid (G.map (·.1) = ⟨t, s, d, 0⟩ :: (q.take m).foldl (spotX g s' d) out) ∧
          wr.ownsRow (w.heap.size + 1 + 1 + 1) 86 8 (.slice A9 G.length c9) G.length (G.flatMap encS) ∧ Hid (∀ p ∈ G, SpOk base (n + 1) wr p) ∧ Blk wr w.heap.size 24 #[.slice (some ⟨b, off, none⟩) g.length c] ∧
          Blk wr (w.heap.size + 1) 27 #[.int .i64 kk, .string t.text, .slice (some ⟨b4, off4, none⟩) t.slots.length cT] ∧ Fr [] w wr) (fun _ j _ => q.length - (intOf j).toNat)
        case atStart => exact ⟨0, A9, c9, G, Nat.zero_le _, rfl, rfl, hGm, hG, hGo, hB1, hB2, hf⟩
        case round =>
          clear hGm hG hGo hB1 hB2 hf hc
          obtain ⟨m, A9, c9, G, hm', rfl, rfl, hGm, hG, hGo, hB1, hB2, hf⟩ := hrel
          by_cases hlt2 : m < q.length
          · obtain ⟨b6, off6, x, A6, c6, rfl, hx, f0, f1, f2, hX⟩ := hRow.at_ hlt2
            have f0 := hf.cell f0 (by simp)
            have f1 := hf.cell f1 (by simp)
            have f2 := hf.cell f2 (by simp)
            have hxv := Lib.hid (HQ.out x (List.mem_of_getElem? hx.out))
            have HXT := Lib.hid (fold_take (f := spotX g s' d) (b := out) hx)
            have hxl := spots_len x hxv.out s' (d + 1)
            have hbm := fold_take_le (m := List.length) (f := spotX g s' d) (fun b x => by simp [spotX]) q out (m + 1)
            rw [HXT.out] at hbm
            have hbm2 : ((q.take m).foldl (spotX g s' d) out).length + x.nodes + 1 ≤ t.nodes := by
              have h1 : ((q.take m).foldl (spotX g s' d) out ++ spotsT g x s' (d + 1)).length ≤ (q.foldl (spotX g s' d) out).length := hbm
              have h2 : (q.foldl (spotX g s' d) out).length + 1 ≤ t.nodes := hbk1
              rw [List.length_append, hxl] at h1
              omega
            have hGl : G.length = 1 + ((q.take m).foldl (spotX g s' d) out).length := by
              have := congrArg List.length hGm.out
              simp at this
              omega
            have hxn := T.nodes_pos x
            have hxb := nodes_below hq hx
            have hd1 : 0 ≤ d + 1 := by omega
            have hd2 : d + 1 + x.nodes ≤ 100000 := by omega
            have hx24 : x.nodes ≤ 1024 := by omega
            have hbG : G.length + x.nodes ≤ 1024 := by omega
            have HGL := Lib.hid hGl
            have HXL := Lib.hid hxl
            clear hGl hbm hbm2 hxl
            obtain ⟨W5, hW5⟩ : ∃ W, W = wr.alloc (.cells #[.int .i64 x.kind, .string x.text, .slice A6 x.slots.length c6] 27) := ⟨_, rfl⟩
            have hf5 : Fr [] wr W5 := by rw [hW5]; exact frx
            have hB5 : Blk W5 wr.heap.size 27 #[.int .i64 x.kind, .string x.text, .slice A6 x.slots.length c6] := by rw [hW5]; exact Blk.new _ _ _ _ rfl
            have hF5 := hf.trans hf5
            have hG5 := own_fr hG hf5 (by simp)
            obtain ⟨gb, rfl, hgb1, hgb2⟩ := own_some hG (by rw [HGL.out]; omega)
            have hz6 := hf5.size
            have q0 := (hB1.fr hf5 (by simp)).cell 0 rfl
            have k0 := (hB2.fr hf5 (by simp)).cell 0 rfl
            have y0 := hB5.cell 0 rfl
            have y1 := hB5.cell 1 rfl
            have y2 := hB5.cell 2 rfl
            have e3 := (hf0.trans hF5).cell e3 (by simp)
            have s0 := (hf0.trans hF5).cell s0 (by simp)
            have s1 := (hf0.trans hF5).cell s1 (by simp)
            have s2 := (hf0.trans hF5).cell s2 (by simp)
            have HW5 := Lib.hid hW5.symm
            have hwr : Hid (IntKind.i64.wrap (d + 1) = d + 1) := IntWalk.i64_in _ (by omega)
            clear hW5
            go_wp2_with fail
            rw [HW5.out]
            go_region_held3 (fun w' => w'.cell? ⟨w.heap.size, 0, none⟩ = some (.slice (some ⟨b, off, none⟩) g.length c) ∧ w'.cell? ⟨wr.heap.size, 0, none⟩ = some (.int .i64 x.kind) ∧ w'.cell? ⟨wr.heap.size, 1, none⟩ = some (.string x.text) ∧ w'.cell? ⟨wr.heap.size, 2, none⟩ = some (.slice A6 x.slots.length c6) ∧ w'.cell? ⟨w.heap.size + 1, 0, none⟩ = some (.int .i64 kk) ∧
                w'.cell? ⟨b, off + kk * 4 + 3, none⟩ = some (.slice (some ⟨b2, off2, none⟩) r.slots.length c1) ∧ w'.cell? ⟨b2, off2 + k * 3, none⟩ = some (.int .u8 s'.many) ∧ w'.cell? ⟨b2, off2 + k * 3 + 1, none⟩ = some (.slice A4 s'.kinds.length c4) ∧ w'.cell? ⟨b2, off2 + k * 3 + 2, none⟩ = some (.string s'.between))
              (first
                | (go_keep; done)
                | exact ⟨hFa.cell q0 (by simp), hFa.cell y0 (by simp), hFa.cell y1 (by simp), hFa.cell y2 (by simp), hFa.cell k0 (by simp), hFa.cell e3 (by simp), hFa.cell s0 (by simp), hFa.cell s1 (by simp), hFa.cell s2 (by simp)⟩
                | exact ⟨hFg.cell q0 (by simp; omega), hFg.cell y0 (by simp; omega), hFg.cell y1 (by simp; omega), hFg.cell y2 (by simp; omega), hFg.cell k0 (by simp; omega), hFg.cell e3 (by simp; omega), hFg.cell s0 (by simp; omega), hFg.cell s1 (by simp; omega), hFg.cell s2 (by simp; omega)⟩)
              (first
                | (go_at_call 44; rw [hwr.out]; refine (ih x A6 c6 _ s' A4 c4 (d + 1) (hf0.trans (Fr.trans hF5 frx)) (Nat.le_trans hbw (Fr.size (Fr.trans hF5 frx : Fr [] w _))) (hX.fr0 (Fr.trans hF5 frx)) (hks'.fr0 (hf0.trans (Fr.trans hF5 frx))) hlow'.out hxv.out hx24 hd1 hd2).mono ?_; rintro e wa ⟨A10, c10, G2, rfl, hfa, hG2m, hG2, hG2o⟩; have hFa : Fr [] W5 wa := (Fr.trans frx hfa))
                | (refine step_append_g rfl (.tmp 33) (.tmp 48) _ rfl elemSp (.slice (some ⟨gb, 0, none⟩) G.length c9) (G.flatMap encS) rfl (own_fr hG5 hFa (by simp)) A10 (spotsT g x s' (d + 1)).length c10 (G2.flatMap encS) rfl (Cells.of_own hG2) (by rw [encS_len, ← hG2m, List.length_map]) (own_hdr hG2).1 (encS_one _) (by rw [HXL.out]; omega) (by have := hFa.size; omega) ?_; intro A7 c7 w7 ho7 hg7 hat7; have hFg1 : Fr [gb] wa w7 := (Fr.refl _ _).grown hg7 (fun k hk => .inl (by simp [Value.ownBlock] at hk; simp [hk])); have hFg : Fr [gb] W5 w7 := (hFa.mono (by simp)).trans hFg1))
            have hFw : Fr [gb] wr w7 := (hf5.mono (by simp)).trans hFg
            have hF7 : Fr [] w w7 := Fr.app (hF5.trans hFa) (own_fr hG5 hFa (by simp)) (by omega) hg7
            have hG2l : Hid ((spotsT g x s' (d + 1)).length = G2.length) := by show _ = _; rw [← hG2m, List.length_map]
            have hGm2 : Hid ((G ++ G2).map (·.1) = ⟨t, s, d, 0⟩ :: (q.take (m + 1)).foldl (spotX g s' d) out) := by
              show _ = _
              rw [List.map_append, hGm.out, hG2m, HXT.out]
              rfl
            have hGo2 : Hid (∀ p ∈ G ++ G2, SpOk base (n + 1) w7 p) := fun p hp => by
              rcases List.mem_append.1 hp with hp | hp
              · exact (hGo.out p hp).fr hFw (fun k hk => by obtain rfl : k = gb := by simpa using hk
                                                            omega)
              · exact ((hG2o p hp).mono (by omega)).fr hFg1 (fun k hk => by obtain rfl : k = gb := by simpa using hk
                                                                            omega)
            rw [hG2l.out] at ho7 ⊢
            have hownn : w7.ownsRow (w.heap.size + 1 + 1 + 1) 86 8 (.slice A7 (G ++ G2).length c7) (G ++ G2).length ((G ++ G2).flatMap encS) := by simpa using ho7
            go_wp2_with fail
            go_roundw
            case rel => exact ⟨m + 1, A7, c7, G ++ G2, by omega, by go_num, by rw [List.length_append], hGm2, hownn, hGo2, hB1.fr hFw (by simp; omega), hB2.fr hFw (by simp; omega), hF7⟩
            case measure => simp [intOf]; omega
          · have hGm3 : Hid (G.map (·.1) = ⟨t, s, d, 0⟩ :: ((r.slots.zip t.slots).take (k + 1)).foldl (spotP g d) []) := by
              have := hGm.out
              rw [List.take_of_length_le (show q.length ≤ m by omega)] at this
              show _ = _
              rw [HZP.out]
              exact this
            go_wp2
            go_roundw
            case rel => exact ⟨k + 1, A9, c9, G, by omega, by go_num, rfl, hGm3, hG, hGo, hB1, hB2, hf⟩
            case measure => simp [intOf]; omega
      · have hGm4 : Hid (G.map (·.1) = ⟨t, s, d, 0⟩ :: restT g t d) := by
          have := hGm.out
          rw [List.take_of_length_le (by rw [List.length_zip]; omega)] at this
          show _ = _
          rw [HRT.out]
          exact this
        obtain ⟨p0, Gt, rfl⟩ : ∃ p0 Gt, G = p0 :: Gt := by
          cases G with
          | nil => have := hGm4.out; simp at this
          | cons p0 Gt => exact ⟨p0, Gt, rfl⟩
        have h0 : p0.1 = ⟨t, s, d, 0⟩ ∧ Gt.map (·.1) = restT g t d := by
          have := hGm4.out
          rw [List.map_cons] at this
          exact ⟨(List.cons.inj this).1, (List.cons.inj this).2⟩
        have hgl : Hid ((p0 :: Gt).length = 1 + (restT g t d).length) := by show _ = _; rw [← h0.2, List.length_map, List.length_cons]; omega
        have H00 := Lib.hid h0
        clear h0
        obtain ⟨gb, rfl, hgb1, hgb2⟩ := own_some hG (by simp)
        have hlen7 : 7 < ((p0 :: Gt).flatMap encS).length := by rw [encS_len, List.length_cons]; omega
        obtain ⟨hset, ⟨y, hy⟩, hfz⟩ := own_set (i := 7) (u := .int .i64 ((p0 :: Gt).length : Nat)) hG hlen7
        have hset2 : ((p0 :: Gt).flatMap encS).set 7 (.int .i64 ((p0 :: Gt).length : Nat)) = (((⟨t, s, d, 1 + (restT g t d).length⟩, p0.2) : SpH) :: Gt).flatMap encS := by
          rw [List.flatMap_cons, List.flatMap_cons]
          have h1 := H00.out.1
          rw [hgl.out]
          simp only [encS, h1]
          rfl
        rw [hset2] at hset
        have hlt0 : (0 : Int) < ((p0 :: Gt).length : Nat) := by rw [hgl.out]; omega
        have hfS : Fr [gb] wr (wr.setCell ⟨gb, 7, none⟩ (.int .i64 ((p0 :: Gt).length : Nat))) := (Fr.refl _ _).setCell (.inl (by simp)) _
        have hlow2 : base ≤ gb := by omega
        have hgbz : w.heap.size ≤ gb := by omega
        clear hset2 hlen7
        obtain ⟨gn, hgn⟩ : ∃ gn, (p0 :: Gt).length = gn := ⟨_, rfl⟩
        have hall : Hid (∀ p ∈ (((⟨t, s, d, 1 + (restT g t d).length⟩, p0.2) : SpH) :: Gt), SpOk base (n + 1) (wr.setCell ⟨gb, 7, none⟩ (.int .i64 (gn : Nat))) p) := fun p hp => by
          rw [← hgn]
          rcases List.mem_cons.1 hp with rfl | hp
          · have h1 := (hGo.out p0 (by simp)).fr hfS (fun k hk => by obtain rfl : k = gb := by simpa using hk
                                                                     exact hlow2)
            have h2 := H00.out.1
            exact ⟨by have := h1.tree; rw [h2] at this; exact this, by have := h1.kinds; rw [h2] at this; exact this, by have := h1.low; rw [h2] at this; exact this⟩
          · exact (hGo.out p (by simp [hp])).fr hfS (fun k hk => by obtain rfl : k = gb := by simpa using hk
                                                                    exact hlow2)
        rw [hgn] at hset hfS hlt0 hgl
        simp only [hgn]
        clear hgn
        go_wp2_with fail
        go_ret
        have hlenT : Hid ((spotsT g t s d).length = gn) := by
          show _ = _
          rw [HEQ.out, List.length_cons, hgl.out]
          omega
        refine ⟨some ⟨gb, 0, none⟩, c9, _, by rw [hlenT.out]; rfl, hf.setCell (.inr hgbz) _, ?_, ?_, hall.out⟩
        · rw [HEQ.out, List.map_cons, H00.out.2]
        · rw [hlenT.out]
          exact own_base hset (by omega)
end

/- spots of the program once more: the blocks that the tree does not lie in are any that hold all new ones. -/
section
open Go.RowKit
structure SpS (S : Nat → Prop) (base n : Nat) (w : World) (p : SpH) : Prop where
 tree : RH S n w p.2.1.1 p.2.1.2 p.1.tree
 kinds : Rd w (.int .i64) p.2.2.1 p.2.2.2 p.1.slot.kinds
 low : ∀ a, p.2.2.1 = some a → 0 < p.1.slot.kinds.length → a.block < base
theorem SpS.fr {S : Nat → Prop} {Z : List Nat} {base n : Nat} {w w' : World} {p : SpH} (h : SpS S base n w p) (hf : Fr Z w w') (hZ : ∀ k ∈ Z, S k ∧ base ≤ k) : SpS S base n w' p :=
 ⟨h.tree.fr hf fun k hk => (hZ k hk).1, h.kinds.fr hf fun h0 a ha hm => by have := h.low a ha h0; have := (hZ _ hm).2; omega, h.low⟩
theorem SpS.mono {S : Nat → Prop} {base n m : Nat} {w : World} {p : SpH} (h : SpS S base n w p) (hl : n ≤ m) : SpS S base m w p := ⟨h.tree.mono hl, h.kinds, h.low⟩
def RetSpS (S : Nat → Prop) (base n : Nat) (w : World) (l : List Sp) (e : Ending) (w' : World) : Prop :=
 ∃ (A : Option Addr) (c : Nat) (G : List SpH), e = .returned (.slice A l.length c) ∧ Fr [] w w' ∧ G.map (·.1) = l ∧ w'.ownsRow w.heap.size 86 8 (.slice A l.length c) l.length (G.flatMap encS) ∧ ∀ p ∈ G, SpS S base n w' p
set_option maxRecDepth 20000 in
set_option maxHeartbeats 6400000 in
theorem spotsS_any (A : Option Addr) (c : Nat) (g : List Ru) (w0 : World) (ha : RRu w0 A c g) (base : Nat) (hb0 : w0.heap.size ≤ base) (S : Nat → Prop) (hS : ∀ k, base ≤ k → S k) (n : Nat) : ∀ (t : T) (AT : Option Addr) (cT : Nat) (w : World) (s : Sl) (B : Option Addr) (cb : Nat) (d : Int),
    Fr [] w0 w → base ≤ w.heap.size → RH S n w AT cT t → Rd w (.int .i64) B cb s.kinds → (∀ a, B = some a → 0 < s.kinds.length → a.block < w0.heap.size) → Val g t → t.nodes ≤ 1024 → 0 ≤ d → d + t.nodes ≤ 100000 →
    Calls Tryz.prog 44 #[.agg #[.slice A g.length c], .agg (tcells t AT cT), .agg #[.int .u8 s.many, .slice B s.kinds.length cb, .string s.between], .int .i64 d] w (RetSpS S w0.heap.size n w (spotsT g t s d)) := by
  induction n with
  | zero => intro t AT cT w s B cb d _ _ h; exact absurd h id
  | succ n ih =>
    intro t AT cT w s B cb d hf0 hbw hR hks hlow hval hn hd0 hd
    have hRR := hR
    have hR : RowsB S (fun A c x => RH S n w A c x) w AT cT t.slots := hR
    have hl1 := hR.bound
    have hgb := ha.bound
    obtain ⟨r, hru, h16, hlen, _, _, hsub⟩ := val_parts hval
    obtain ⟨kk, hkk, hgk, hkl⟩ := ruleAt_some hru
    obtain ⟨b, off, r', A1, c1, rfl, hr, e0, e1, e2, e3, hSl⟩ := ha.at_ hkl
    obtain rfl : r = r' := Option.some.inj (hgk.symm.trans hr.out)
    have hsb := hSl.bound
    have hbl0 := World.block_lt_of_cell? w0 _ e3
    have HU := Lib.hid hru
    have HEQ := Lib.hid (spotsT_eq g t s d)
    have HRT := Lib.hid (restT_eq hru d)
    have HLEN := Lib.hid hlen
    have HSUB := Lib.hid hsub
    have hnl := spots_len t hval s d
    rw [HEQ.out, List.length_cons, HRT.out] at hnl
    have HTOT : Hid (∀ i, ((r.slots.zip t.slots).take i |>.foldl (spotP g d) []).length + 1 ≤ t.nodes) := fun i => by
      have := fold_take_le (m := List.length) (spot_in_len (g := g) d) (r.slots.zip t.slots) [] i
      omega
    rw [show tcells t AT cT = #[.int .i64 kk, .string t.text, .slice AT t.slots.length cT] by unfold tcells; rw [hkk]]
    have hN := Lib.hid hnl
    have HKK := Lib.hid hkk
    clear hru hval hgk hkk hsub hlen hnl
    obtain ⟨W3, hW3⟩ : ∃ W, W = (((w.alloc (.cells #[.slice (some ⟨b, off, none⟩) g.length c] 24)).alloc (.cells #[.int .i64 kk, .string t.text, .slice AT t.slots.length cT] 27)).alloc (.cells #[.int .u8 s.many, .slice B s.kinds.length cb, .string s.between] 55)) := ⟨_, rfl⟩
    have hF3 : Fr [] w W3 := by rw [hW3]; exact frx
    have hB1 : Blk W3 w.heap.size 24 #[.slice (some ⟨b, off, none⟩) g.length c] := by rw [hW3]; exact ((Blk.new w _ _ _ rfl).alloc _).alloc _
    have hB2 : Blk W3 (w.heap.size + 1) 27 #[.int .i64 kk, .string t.text, .slice AT t.slots.length cT] := by rw [hW3]; exact (Blk.new _ _ _ _ (by simp)).alloc _
    have hB3 : Blk W3 (w.heap.size + 1 + 1) 55 #[.int .u8 s.many, .slice B s.kinds.length cb, .string s.between] := by rw [hW3]; exact Blk.new _ _ _ _ (by simp)
    have HZ3 : Hid (W3.heap.size = w.heap.size + 1 + 1 + 1) := by show _ = _; rw [hW3]; simp
    have p2 := (hB2.alloc (.cells (encS (⟨t, s, d, 0⟩, (AT, cT), (B, cb))).toArray 86)).cell 2 rfl
    have hI0 : (W3.alloc (.cells (encS (⟨t, s, d, 0⟩, (AT, cT), (B, cb))).toArray 86)).ownsRow (w.heap.size + 1 + 1 + 1) 86 8 (.slice (some ⟨w.heap.size + 1 + 1 + 1, 0, none⟩) 1 1) 1 (encS (⟨t, s, d, 0⟩, (AT, cT), (B, cb))) :=
      own_one_g _ _ HZ3.out.symm rfl
    obtain ⟨W4, hW4⟩ : ∃ W, W = W3.alloc (.cells #[.int .i64 kk, .string t.text, .slice AT t.slots.length cT, .int .u8 s.many, .slice B s.kinds.length cb, .string s.between, .int .i64 d, .int .i64 0] 86) := ⟨_, rfl⟩
    have hW4' : W4 = W3.alloc (.cells (encS (⟨t, s, d, 0⟩, (AT, cT), (B, cb))).toArray 86) := by
      rw [hW4]
      simp only [encS, HKK.out]
      rfl
    rw [← hW4'] at hI0 p2
    have hf34 : Fr [] W3 W4 := by rw [hW4]; exact frx
    have hOK0 : SpS S w0.heap.size (n + 1) W4 (⟨t, s, d, 0⟩, (AT, cT), (B, cb)) := ⟨hRR.fr0 (hF3.trans hf34), hks.fr0 (hF3.trans hf34), hlow⟩
    have HW3 := Lib.hid hW3.symm
    have HW4 := Lib.hid hW4.symm
    have p2' := p2
    rw [hW4, hW3] at p2'
    clear hW3 hW4 hW4'
    go_enter Tryz.func44, Tryz.ntmps44
    go_wp2_with fail
    rw [HW3.out, HW4.out]
    have hB14 := hB1.fr hf34 (by simp)
    have hB24 := hB2.fr hf34 (by simp)
    have hF4 := hF3.trans hf34
    clear p2' hf34 hB1 hB2 hB3 hF3
    go_loopw [9, 22] (fun ov i wr => ∃ (k : Nat) (A9 : Option Addr) (c9 : Nat) (G : List SpH), k ≤ t.slots.length ∧ i = .int .i64 k ∧ ov = .slice A9 G.length c9 ∧ Hid (G.map (·.1) = ⟨t, s, d, 0⟩ :: ((r.slots.zip t.slots).take k).foldl (spotP g d) []) ∧
      wr.ownsRow (w.heap.size + 1 + 1 + 1) 86 8 (.slice A9 G.length c9) G.length (G.flatMap encS) ∧ Hid (∀ p ∈ G, SpS S w0.heap.size (n + 1) wr p) ∧ Blk wr w.heap.size 24 #[.slice (some ⟨b, off, none⟩) g.length c] ∧
      Blk wr (w.heap.size + 1) 27 #[.int .i64 kk, .string t.text, .slice AT t.slots.length cT] ∧ Fr [] w wr) (fun _ i _ => t.slots.length - (intOf i).toNat)
    case atStart => exact ⟨0, _, _, [(⟨t, s, d, 0⟩, (AT, cT), (B, cb))], Nat.zero_le _, rfl, rfl, rfl, by simpa using hI0, (fun p hp => by rw [List.mem_singleton.1 hp]; exact hOK0), hB14, hB24, hF4⟩
    case round =>
      clear hI0 hOK0 hB14 hB24 hF4 p2
      obtain ⟨k, A9, c9, G, hk, rfl, rfl, hGm, hG, hGo, hB1, hB2, hf⟩ := hrel
      have hbk := HTOT.out k
      by_cases hlt : k < t.slots.length
      · obtain ⟨b2, off2, s', A4, c4, rfl, hs, hm, s0, s1, hks', s2⟩ := hSl.at_ (k := k) (by rw [← HLEN.out]; exact hlt)
        have hkr : k < r.slots.length := by rw [← HLEN.out]; exact hlt
        have hb2l := World.block_lt_of_cell? w0 _ s0
        obtain ⟨b4, off4, q, A5, c5, rfl, hq, hc, hRow, hlq⟩ := hR.at_ (i := k) hlt
        have hc := hf.cell hc (by simp)
        have hz : (r.slots.zip t.slots)[k]? = some (s', q) := zip_at hs hq
        have HZP := Lib.hid (fold_take (f := spotP g d) (b := []) (show Hid _ from hz))
        have hbk1 := HTOT.out (k + 1)
        rw [HZP.out] at hbk1
        have HQ := Lib.hid (HSUB.out q (List.mem_of_getElem? hq.out))
        have hlow' : Hid (∀ a, A4 = some a → 0 < s'.kinds.length → a.block < w0.heap.size) := fun a h h0 => hks'.lt h0 a h
        clear hz
        generalize ((r.slots.zip t.slots).take k).foldl (spotP g d) [] = out at *
        go_wp2_with fail
        go_loopw [9, 29] (fun ov j wr => ∃ (m : Nat) (A9 : Option Addr) (c9 : Nat) (G : List SpH), m ≤ q.length ∧ j = .int .i64 m ∧ ov = .slice A9 G.length c9 ∧ Hid (G.map (·.1) = ⟨t, s, d, 0⟩ :: (q.take m).foldl (spotX g s' d) out) ∧
          wr.ownsRow (w.heap.size + 1 + 1 + 1) 86 8 (.slice A9 G.length c9) G.length (G.flatMap encS) ∧ Hid (∀ p ∈ G, SpS S w0.heap.size (n + 1) wr p) ∧ Blk wr w.heap.size 24 #[.slice (some ⟨b, off, none⟩) g.length c] ∧
          Blk wr (w.heap.size + 1) 27 #[.int .i64 kk, .string t.text, .slice (some ⟨b4, off4, none⟩) t.slots.length cT] ∧ Fr [] w wr) (fun _ j _ => q.length - (intOf j).toNat)
        case atStart => exact ⟨0, A9, c9, G, Nat.zero_le _, rfl, rfl, hGm, hG, hGo, hB1, hB2, hf⟩
        case round =>
          clear hGm hG hGo hB1 hB2 hf hc
          obtain ⟨m, A9, c9, G, hm', rfl, rfl, hGm, hG, hGo, hB1, hB2, hf⟩ := hrel
          by_cases hlt2 : m < q.length
          · obtain ⟨b6, off6, x, A6, c6, rfl, hx, f0, f1, f2, hX⟩ := hRow.at_ hlt2
            have f0 := hf.cell f0 (by simp)
            have f1 := hf.cell f1 (by simp)
            have f2 := hf.cell f2 (by simp)
            have hxv := Lib.hid (HQ.out x (List.mem_of_getElem? hx.out))
            have HXT := Lib.hid (fold_take (f := spotX g s' d) (b := out) hx)
            have hxl := spots_len x hxv.out s' (d + 1)
            have hbm := fold_take_le (m := List.length) (f := spotX g s' d) (fun b x => by simp [spotX]) q out (m + 1)
            rw [HXT.out] at hbm
            have hbm2 : ((q.take m).foldl (spotX g s' d) out).length + x.nodes + 1 ≤ t.nodes := by
              have h1 : ((q.take m).foldl (spotX g s' d) out ++ spotsT g x s' (d + 1)).length ≤ (q.foldl (spotX g s' d) out).length := hbm
              have h2 : (q.foldl (spotX g s' d) out).length + 1 ≤ t.nodes := hbk1
              rw [List.length_append, hxl] at h1
              omega
            have hGl : G.length = 1 + ((q.take m).foldl (spotX g s' d) out).length := by
              have := congrArg List.length hGm.out
              simp at this
              omega
            have hxn := T.nodes_pos x
            have hxb := nodes_below hq hx
            have hd1 : 0 ≤ d + 1 := by omega
            have hd2 : d + 1 + x.nodes ≤ 100000 := by omega
            have hx24 : x.nodes ≤ 1024 := by omega
            have hbG : G.length + x.nodes ≤ 1024 := by omega
            have HGL := Lib.hid hGl
            have HXL := Lib.hid hxl
            clear hGl hbm hbm2 hxl
            obtain ⟨W5, hW5⟩ : ∃ W, W = wr.alloc (.cells #[.int .i64 x.kind, .string x.text, .slice A6 x.slots.length c6] 27) := ⟨_, rfl⟩
            have hf5 : Fr [] wr W5 := by rw [hW5]; exact frx
            have hB5 : Blk W5 wr.heap.size 27 #[.int .i64 x.kind, .string x.text, .slice A6 x.slots.length c6] := by rw [hW5]; exact Blk.new _ _ _ _ rfl
            have hF5 := hf.trans hf5
            have hG5 := own_fr hG hf5 (by simp)
            obtain ⟨gb, rfl, hgb1, hgb2⟩ := own_some hG (by rw [HGL.out]; omega)
            have hz6 := hf5.size
            have q0 := (hB1.fr hf5 (by simp)).cell 0 rfl
            have k0 := (hB2.fr hf5 (by simp)).cell 0 rfl
            have y0 := hB5.cell 0 rfl
            have y1 := hB5.cell 1 rfl
            have y2 := hB5.cell 2 rfl
            have e3 := (hf0.trans hF5).cell e3 (by simp)
            have s0 := (hf0.trans hF5).cell s0 (by simp)
            have s1 := (hf0.trans hF5).cell s1 (by simp)
            have s2 := (hf0.trans hF5).cell s2 (by simp)
            have HW5 := Lib.hid hW5.symm
            have hwr : Hid (IntKind.i64.wrap (d + 1) = d + 1) := IntWalk.i64_in _ (by omega)
            clear hW5
            go_wp2_with fail
            rw [HW5.out]
            go_region_held3 (fun w' => w'.cell? ⟨w.heap.size, 0, none⟩ = some (.slice (some ⟨b, off, none⟩) g.length c) ∧ w'.cell? ⟨wr.heap.size, 0, none⟩ = some (.int .i64 x.kind) ∧ w'.cell? ⟨wr.heap.size, 1, none⟩ = some (.string x.text) ∧ w'.cell? ⟨wr.heap.size, 2, none⟩ = some (.slice A6 x.slots.length c6) ∧ w'.cell? ⟨w.heap.size + 1, 0, none⟩ = some (.int .i64 kk) ∧
                w'.cell? ⟨b, off + kk * 4 + 3, none⟩ = some (.slice (some ⟨b2, off2, none⟩) r.slots.length c1) ∧ w'.cell? ⟨b2, off2 + k * 3, none⟩ = some (.int .u8 s'.many) ∧ w'.cell? ⟨b2, off2 + k * 3 + 1, none⟩ = some (.slice A4 s'.kinds.length c4) ∧ w'.cell? ⟨b2, off2 + k * 3 + 2, none⟩ = some (.string s'.between))
              (first
                | (go_keep; done)
                | exact ⟨hFa.cell q0 (by simp), hFa.cell y0 (by simp), hFa.cell y1 (by simp), hFa.cell y2 (by simp), hFa.cell k0 (by simp), hFa.cell e3 (by simp), hFa.cell s0 (by simp), hFa.cell s1 (by simp), hFa.cell s2 (by simp)⟩
                | exact ⟨hFg.cell q0 (by simp; omega), hFg.cell y0 (by simp; omega), hFg.cell y1 (by simp; omega), hFg.cell y2 (by simp; omega), hFg.cell k0 (by simp; omega), hFg.cell e3 (by simp; omega), hFg.cell s0 (by simp; omega), hFg.cell s1 (by simp; omega), hFg.cell s2 (by simp; omega)⟩)
              (first
                | (go_at_call 44; rw [hwr.out]; refine (ih x A6 c6 _ s' A4 c4 (d + 1) (hf0.trans (Fr.trans hF5 frx)) (Nat.le_trans hbw (Fr.size (Fr.trans hF5 frx : Fr [] w _))) (hX.fr0 (Fr.trans hF5 frx)) (hks'.fr0 (hf0.trans (Fr.trans hF5 frx))) hlow'.out hxv.out hx24 hd1 hd2).mono ?_; rintro e wa ⟨A10, c10, G2, rfl, hfa, hG2m, hG2, hG2o⟩; have hFa : Fr [] W5 wa := (Fr.trans frx hfa))
                | (refine step_append_g rfl (.tmp 33) (.tmp 48) _ rfl elemSp (.slice (some ⟨gb, 0, none⟩) G.length c9) (G.flatMap encS) rfl (own_fr hG5 hFa (by simp)) A10 (spotsT g x s' (d + 1)).length c10 (G2.flatMap encS) rfl (Cells.of_own hG2) (by rw [encS_len, ← hG2m, List.length_map]) (own_hdr hG2).1 (encS_one _) (by rw [HXL.out]; omega) (by have := hFa.size; omega) ?_; intro A7 c7 w7 ho7 hg7 hat7; have hFg1 : Fr [gb] wa w7 := (Fr.refl _ _).grown hg7 (fun k hk => .inl (by simp [Value.ownBlock] at hk; simp [hk])); have hFg : Fr [gb] W5 w7 := (hFa.mono (by simp)).trans hFg1))
            have hFw : Fr [gb] wr w7 := (hf5.mono (by simp)).trans hFg
            have hF7 : Fr [] w w7 := Fr.app (hF5.trans hFa) (own_fr hG5 hFa (by simp)) (by omega) hg7
            have hG2l : Hid ((spotsT g x s' (d + 1)).length = G2.length) := by show _ = _; rw [← hG2m, List.length_map]
            have hGm2 : Hid ((G ++ G2).map (·.1) = ⟨t, s, d, 0⟩ :: (q.take (m + 1)).foldl (spotX g s' d) out) := by
              show _ = _
              rw [List.map_append, hGm.out, hG2m, HXT.out]
              rfl
            have hGo2 : Hid (∀ p ∈ G ++ G2, SpS S w0.heap.size (n + 1) w7 p) := fun p hp => by
              rcases List.mem_append.1 hp with hp | hp
              · exact (hGo.out p hp).fr hFw (fun k hk => by obtain rfl : k = gb := by simpa using hk
                                                            exact ⟨hS _ (by omega), by omega⟩)
              · exact ((hG2o p hp).mono (by omega)).fr hFg1 (fun k hk => by obtain rfl : k = gb := by simpa using hk
                                                                            exact ⟨hS _ (by omega), by omega⟩)
            rw [hG2l.out] at ho7 ⊢
            have hownn : w7.ownsRow (w.heap.size + 1 + 1 + 1) 86 8 (.slice A7 (G ++ G2).length c7) (G ++ G2).length ((G ++ G2).flatMap encS) := by simpa using ho7
            go_wp2_with fail
            go_roundw
            case rel => exact ⟨m + 1, A7, c7, G ++ G2, by omega, by go_num, by rw [List.length_append], hGm2, hownn, hGo2, hB1.fr hFw (by simp; omega), hB2.fr hFw (by simp; omega), hF7⟩
            case measure => simp [intOf]; omega
          · have hGm3 : Hid (G.map (·.1) = ⟨t, s, d, 0⟩ :: ((r.slots.zip t.slots).take (k + 1)).foldl (spotP g d) []) := by
              have := hGm.out
              rw [List.take_of_length_le (show q.length ≤ m by omega)] at this
              show _ = _
              rw [HZP.out]
              exact this
            go_wp2
            go_roundw
            case rel => exact ⟨k + 1, A9, c9, G, by omega, by go_num, rfl, hGm3, hG, hGo, hB1, hB2, hf⟩
            case measure => simp [intOf]; omega
      · have hGm4 : Hid (G.map (·.1) = ⟨t, s, d, 0⟩ :: restT g t d) := by
          have := hGm.out
          rw [List.take_of_length_le (by rw [List.length_zip]; omega)] at this
          show _ = _
          rw [HRT.out]
          exact this
        obtain ⟨p0, Gt, rfl⟩ : ∃ p0 Gt, G = p0 :: Gt := by
          cases G with
          | nil => have := hGm4.out; simp at this
          | cons p0 Gt => exact ⟨p0, Gt, rfl⟩
        have h0 : p0.1 = ⟨t, s, d, 0⟩ ∧ Gt.map (·.1) = restT g t d := by
          have := hGm4.out
          rw [List.map_cons] at this
          exact ⟨(List.cons.inj this).1, (List.cons.inj this).2⟩
        have hgl : Hid ((p0 :: Gt).length = 1 + (restT g t d).length) := by show _ = _; rw [← h0.2, List.length_map, List.length_cons]; omega
        have H00 := Lib.hid h0
        clear h0
        obtain ⟨gb, rfl, hgb1, hgb2⟩ := own_some hG (by simp)
        have hlen7 : 7 < ((p0 :: Gt).flatMap encS).length := by rw [encS_len, List.length_cons]; omega
        obtain ⟨hset, ⟨y, hy⟩, hfz⟩ := own_set (i := 7) (u := .int .i64 ((p0 :: Gt).length : Nat)) hG hlen7
        have hset2 : ((p0 :: Gt).flatMap encS).set 7 (.int .i64 ((p0 :: Gt).length : Nat)) = (((⟨t, s, d, 1 + (restT g t d).length⟩, p0.2) : SpH) :: Gt).flatMap encS := by
          rw [List.flatMap_cons, List.flatMap_cons]
          have h1 := H00.out.1
          rw [hgl.out]
          simp only [encS, h1]
          rfl
        rw [hset2] at hset
        have hlt0 : (0 : Int) < ((p0 :: Gt).length : Nat) := by rw [hgl.out]; omega
        have hfS : Fr [gb] wr (wr.setCell ⟨gb, 7, none⟩ (.int .i64 ((p0 :: Gt).length : Nat))) := (Fr.refl _ _).setCell (.inl (by simp)) _
        have hlow2 : base ≤ gb := by omega
        have hgbz : w.heap.size ≤ gb := by omega
        clear hset2 hlen7
        obtain ⟨gn, hgn⟩ : ∃ gn, (p0 :: Gt).length = gn := ⟨_, rfl⟩
        have hall : Hid (∀ p ∈ (((⟨t, s, d, 1 + (restT g t d).length⟩, p0.2) : SpH) :: Gt), SpS S w0.heap.size (n + 1) (wr.setCell ⟨gb, 7, none⟩ (.int .i64 (gn : Nat))) p) := fun p hp => by
          rw [← hgn]
          rcases List.mem_cons.1 hp with rfl | hp
          · have h1 := (hGo.out p0 (by simp)).fr hfS (fun k hk => by obtain rfl : k = gb := by simpa using hk
                                                                     exact ⟨hS _ hlow2, Nat.le_trans hb0 hlow2⟩)
            have h2 := H00.out.1
            exact ⟨by have := h1.tree; rw [h2] at this; exact this, by have := h1.kinds; rw [h2] at this; exact this, by have := h1.low; rw [h2] at this; exact this⟩
          · exact (hGo.out p (by simp [hp])).fr hfS (fun k hk => by obtain rfl : k = gb := by simpa using hk
                                                                    exact ⟨hS _ hlow2, Nat.le_trans hb0 hlow2⟩)
        rw [hgn] at hset hfS hlt0 hgl
        simp only [hgn]
        clear hgn
        go_wp2_with fail
        go_ret
        have hlenT : Hid ((spotsT g t s d).length = gn) := by
          show _ = _
          rw [HEQ.out, List.length_cons, hgl.out]
          omega
        refine ⟨some ⟨gb, 0, none⟩, c9, _, by rw [hlenT.out]; rfl, hf.setCell (.inr hgbz) _, ?_, ?_, hall.out⟩
        · rw [HEQ.out, List.map_cons, H00.out.2]
        · rw [hlenT.out]
          exact own_base hset (by omega)
end

/- wide; Ancestors of the program and the reference. -/
section
open Go.RowKit
end

end Go.Proofs.YtippadnbngcjlaaGreatDoor
