/- Texts of this seat, one behind the other: Say, Great. -/
import Derived.Test.YtippadnbngcjlaaGreatDoorh121
import Derived.Laws.Closers25b
namespace Go.Proofs.YtippadnbngcjlaaGreatDoor
set_option linter.unusedVariables false

/- An oracle: what it says; whether it is too great. -/
section
open Go.RowKit
def mixStep (n x : Int) : Int :=
 bits .xor .u64 (IntKind.u64.wrap (bits .xor .u64 n (IntKind.u64.wrap x) * 13787848793156543929)) (IntKind.u64.wrap (bits .xor .u64 n (IntKind.u64.wrap x) * 13787848793156543929) / 536870912)
def mix0 (salt : Int) (xs : List Int) : Int := xs.foldl mixStep (bits .xor .u64 salt 11400714819323198485)
def mixedOf (salt : Int) (xs : List Int) : Int := IntKind.u64.wrap (bits .xor .u64 (mix0 salt xs) (mix0 salt xs / 4294967296) * 10723151780598845931)
theorem bits_u64 (a b : Int) : 0 ≤ bits .xor .u64 a b ∧ bits .xor .u64 a b ≤ 18446744073709551615 := bits_within .xor .u64 a b
theorem mix0_in (salt : Int) (xs : List Int) : 0 ≤ mix0 salt xs ∧ mix0 salt xs ≤ 18446744073709551615 := by
 have : ∀ (xs : List Int) (n : Int), (0 ≤ n ∧ n ≤ 18446744073709551615) → 0 ≤ xs.foldl mixStep n ∧ xs.foldl mixStep n ≤ 18446744073709551615 := by
  intro xs
  induction xs with
  | nil => intro n h; exact h
  | cons x xs ih => intro n h; exact ih _ (bits_u64 _ _)
 exact this xs _ (bits_u64 _ _)
theorem mix0_snoc {salt : Int} {xs : List Int} {k : Nat} {x : Int} (h : Hid (xs[k]? = some x)) : mix0 salt (xs.take (k + 1)) = mixStep (mix0 salt (xs.take k)) x := by
 unfold mix0
 rw [List.take_add_one, h.out]
 simp
theorem mixedOf_in (salt : Int) (xs : List Int) : 0 ≤ mixedOf salt xs ∧ mixedOf salt xs ≤ 18446744073709551615 := wrap_within .u64 _
set_option maxRecDepth 20000 in
set_option maxHeartbeats 800000 in
theorem mixed_any (A : Option Addr) (c : Nat) (salt : Int) (xs : List Int) (w : World) (ha : Rd w (.int .i64) A c xs) (hs : 0 ≤ salt ∧ salt ≤ 18446744073709551615) :
  Calls Tryz.prog 33 #[.int .u64 salt, .slice A xs.length c] w (RetQ w (.int .u64 (mixedOf salt xs))) := by
 have hbd := ha.bound
 go_enter Tryz.func33, Tryz.ntmps33
 go_wp2
 go_loopw [5, 6] (fun h i wr => ∃ k : Nat, k ≤ xs.length ∧ i = .int .i64 k ∧ h = .int .u64 (mix0 salt (xs.take k)) ∧ ∃ m, wr = w.drewN m) (fun _ i _ => xs.length - (intOf i).toNat)
 case atStart => exact ⟨0, Nat.zero_le _, rfl, rfl, 0, rfl⟩
 case round =>
  obtain ⟨k, hk, rfl, rfl, m, rfl⟩ := hrel
  obtain ⟨hn0, hn1⟩ := mix0_in salt (xs.take k)
  by_cases hlt : k < xs.length
  ·obtain ⟨b1, o1, x, rfl, hx, hc1⟩ := ha.at_ hlt
   have HS := Lib.hid (mix0_snoc (salt := salt) hx)
   generalize mix0 salt (xs.take k) = n at *
   go_wp2
   go_roundw
   case rel => exact ⟨k + 1, by omega, by go_num, by rw [HS.out]; rfl, m, rfl⟩
   case measure => simp [intOf]; omega
  ·rw [List.take_of_length_le (by omega)] at hn0 hn1 ⊢
   have HM : Hid (mixedOf salt xs = IntKind.u64.wrap (bits .xor .u64 (mix0 salt xs) (mix0 salt xs / 4294967296) * 10723151780598845931)) := rfl
   generalize mix0 salt xs = n at *
   go_wp2
   go_ret
   rw [HM.out]
   exact ⟨rfl, m, rfl⟩
def contB (set : List Int) (L : List (List Int)) : Bool := L.any fun l => decide (minus l set = [])
theorem contB_yes {set l : List Int} {L : List (List Int)} {k : Nat} (h : Hid (L[k]? = some l)) (hz : minus l set = []) : contB set L = true :=
 List.any_eq_true.2 ⟨l, List.mem_of_getElem? h.out, by simpa using hz⟩
theorem contB_no {set l : List Int} {L : List (List Int)} {k : Nat} (h : Hid (L[k]? = some l)) (hz : ¬ minus l set = []) (h0 : Hid (contB set (L.take k) = false)) : Hid (contB set (L.take (k + 1)) = false) := by
 show _ = _
 have := h0.out
 unfold contB at *
 rw [List.take_add_one, h.out, List.any_append, this]
 simpa using hz
set_option maxRecDepth 20000 in
set_option maxHeartbeats 800000 in
theorem contains_any (A B : Option Addr) (c d : Nat) (set : List Int) (L : List (List Int)) (w : World) (ha : Rd w (.int .i64) A c set) (hb : Rss w B d L) (hl : ∀ l ∈ L, l.length ≤ 1000000) :
  Calls Tryz.prog 34 #[.slice A set.length c, .slice B L.length d] w (RetV w (.bool (contB set L))) := by
 have hbd := hb.bound
 have HL := Lib.hid hl
 clear hl
 go_enter Tryz.func34, Tryz.ntmps34
 go_wp2
 go_loopw [5] (fun i wr => ∃ k : Nat, k ≤ L.length ∧ i = .int .i64 k ∧ Hid (contB set (L.take k) = false) ∧ Fr [] w wr) (fun i _ => L.length - (intOf i).toNat)
 case atStart => exact ⟨0, Nat.zero_le _, rfl, by show _ = _; rfl, Fr.refl _ _⟩
 case round =>
  obtain ⟨k, hk, rfl, hno, hf⟩ := hrel
  by_cases hlt : k < L.length
  ·obtain ⟨b1, o1, l, A2, c2, rfl, hx, hc1, hr2⟩ := (hb.fr0 hf).at_ hlt
   have hll := HL.out l (List.mem_of_getElem? hx.out)
   go_wp2_with fail
   refine (Minus_any A2 A c2 c l set _ hr2 (ha.fr0 hf) hll).mono ?_
   intro e w3 h3
   obtain ⟨A3, c3, rfl, hf3, _⟩ := h3.n
   have hml := minus_le l set
   clear h3
   by_cases hz : minus l set = []
   ·have hR := Lib.hid (contB_yes hx hz)
    have hd : (((minus l set).length : Int) == 0) = true := by simp [hz]
    have hd' : ((minus l set).length == 0) = true := by simp [hz]
    have HZ := Lib.hid hz
    clear hz
    generalize (minus l set).length = n at *
    go_wp2
    go_ret
    exact ⟨ret_bool hR.out.symm, hf.trans hf3⟩
   ·have hR := contB_no hx hz hno
    have h0 : (minus l set).length ≠ 0 := fun h => hz (List.eq_nil_of_length_eq_zero h)
    have hd : (((minus l set).length : Int) == 0) = false := beq_false_of_ne (by omega)
    have hd' : ((minus l set).length == 0) = false := beq_false_of_ne h0
    clear hz h0
    generalize (minus l set).length = n at *
    go_wp2
    go_roundw
    case rel => exact ⟨k + 1, by omega, by go_num, hR, hf.trans hf3⟩
    case measure => simp [intOf]; omega
  ·rw [List.take_of_length_le (by omega)] at hno
   go_wp2
   go_ret
   exact ⟨ret_bool hno.out.symm, hf⟩
structure Orc where
 need : List (List Int)
 bar : List (List Int)
 salt : Int
 loose : Int
def OrcIs (w : World) (v : Value) (o : Orc) : Prop :=
 ∃ A a B b, v = .agg #[.slice A o.need.length a, .slice B o.bar.length b, .int .u64 o.salt, .int .u8 o.loose] ∧ Rss w A a o.need ∧ Rss w B b o.bar ∧ (0 ≤ o.salt ∧ o.salt ≤ 18446744073709551615) ∧ 0 ≤ o.loose ∧ o.loose ≤ 255
theorem OrcIs.fr0 {w w' : World} {v : Value} {o : Orc} (h : OrcIs w v o) (hf : Fr [] w w') : OrcIs w' v o := by
 obtain ⟨A, a, B, b, hv, h1, h2, h3⟩ := h
 exact ⟨A, a, B, b, hv, h1.fr0 hf, h2.fr0 hf, h3⟩
def sumL (L : List (List Int)) : Nat := (L.map fun l => min l.length 100).sum
def greatO (o : Orc) : Bool := decide (8 < o.need.length ∨ 8 < o.bar.length ∨ 60 < sumL o.need + sumL o.bar)
theorem sumL_le {L : List (List Int)} {l : List Int} (h : l ∈ L) : min l.length 100 ≤ sumL L := by
  unfold sumL
  induction L with
  | nil => cases h
  | cons a L ih =>
    rw [List.map_cons, List.sum_cons]
    rcases List.mem_cons.1 h with rfl | h
    · omega
    · have := ih h; omega
theorem great_len {o : Orc} (h : greatO o = false) : (∀ l ∈ o.need, l.length ≤ 1000000) ∧ ∀ l ∈ o.bar, l.length ≤ 1000000 := by
 unfold greatO at h
 rw [decide_eq_false_iff_not] at h
 exact ⟨fun l hl => by have := sumL_le hl; omega, fun l hl => by have := sumL_le hl; omega⟩
end

/- Great: is an oracle too great? -/
section
open Go.RowKit
def gsum (o : Orc) (i : Nat) : Nat := if i = 0 then 0 else if i = 1 then sumL o.need else sumL o.need + sumL o.bar
def gok (o : Orc) (i : Nat) : Prop := (1 ≤ i → o.need.length ≤ 8) ∧ (2 ≤ i → o.bar.length ≤ 8)
theorem sumL_snoc {L : List (List Int)} {k : Nat} {l : List Int} (h : Hid (L[k]? = some l)) : sumL (L.take (k + 1)) = sumL (L.take k) + min l.length 100 := by
 unfold sumL
 rw [List.take_add_one, h.out]
 simp
theorem sumL_bd (L : List (List Int)) : sumL L ≤ L.length * 100 := by
 unfold sumL
 induction L with
 | nil => simp
 | cons a L ih => rw [List.map_cons, List.sum_cons, List.length_cons]; omega
theorem great_step {o : Orc} {i : Nat} (hi : i < 2) {L : List (List Int)} (hL : L = if i = 0 then o.need else o.bar) : gsum o i + sumL L = gsum o (i + 1) ∧ (gok o i → L.length ≤ 8 → gok o (i + 1)) ∧ (8 < L.length → greatO o = true) ∧ (gok o i → gsum o i ≤ 1600) := by
 have h1 := sumL_bd o.need
 have h2 := sumL_bd o.bar
 rcases (by omega : i = 0 ∨ i = 1) with rfl | rfl
 ·simp at hL
  subst hL
  refine ⟨by simp [gsum], fun h h3 => ⟨fun _ => h3, fun h4 => by omega⟩, fun h => by unfold greatO; simp; omega, fun h => by simp [gsum]⟩
 ·simp at hL
  subst hL
  refine ⟨by simp [gsum], fun h h3 => ⟨fun _ => h.1 (by omega), fun _ => h3⟩, fun h => by unfold greatO; simp; omega, fun h => ?_⟩
  have := h.1 (by omega)
  simp [gsum]; omega
theorem great_end {o : Orc} (h : gok o 2) : decide (60 < ((gsum o 2 : Nat) : Int)) = greatO o := by
 have h1 := h.1 (by omega)
 have h2 := h.2 (by omega)
 unfold greatO gsum
 rw [decide_eq_decide]
 simp
 omega
theorem great_at {w : World} {g : Nat} {t : TypeId} {N B : Option Addr} {n b i : Nat} {o : Orc} (hb : Blk w g t #[.slice N o.need.length n, .slice B o.bar.length b]) (hN : Rss w N n o.need) (hB : Rss w B b o.bar) (hi : i < 2) :
  ∃ A c L, w.cell? ⟨g, i, none⟩ = some (.slice A (L : List (List Int)).length c) ∧ Rss w A c L ∧ L = if i = 0 then o.need else o.bar := by
 rcases (by omega : i = 0 ∨ i = 1) with rfl | rfl
 ·exact ⟨N, n, o.need, hb.cell 0 rfl, hN, rfl⟩
 ·exact ⟨B, b, o.bar, hb.cell 1 rfl, hB, rfl⟩
set_option maxRecDepth 20000 in
set_option maxHeartbeats 1600000 in
theorem Great_any (v : Value) (o : Orc) (w : World) (ho : OrcIs w v o) : Calls Tryz.prog 5 #[v] w (RetV w (.bool (greatO o))) := by
 obtain ⟨N, n, B, b, rfl, hN, hB, hs, hlo⟩ := ho
 have hbk := Blk.new w 31 #[.slice N o.need.length n, .slice B o.bar.length b, .int .u64 o.salt, .int .u8 o.loose] _ rfl
 have q0 := hbk.cell 0 rfl
 have q1 := hbk.cell 1 rfl
 have hF : Fr [] w (w.alloc (.cells #[.slice N o.need.length n, .slice B o.bar.length b, .int .u64 o.salt, .int .u8 o.loose] 31)) := (Fr.refl _ _).alloc _
 go_enter Tryz.func5, Tryz.ntmps5
 go_wp2
 go_loopw [3, 13] (fun s i wr => ∃ k : Nat, k ≤ 2 ∧ i = .int .i64 k ∧ s = .int .i64 (gsum o k : Nat) ∧ Hid (gok o k) ∧ Blk wr (w.heap.size + 1) 28 #[.slice N o.need.length n, .slice B o.bar.length b] ∧ Fr [] w wr) (fun _ i _ => 2 - (intOf i).toNat)
 case atStart => exact ⟨0, by omega, rfl, rfl, ⟨fun h => by omega, fun h => by omega⟩, Blk.new _ _ _ _ (by simp), hF.alloc _⟩
 case round =>
  clear q0 q1 hbk hF
  obtain ⟨k, hk, rfl, rfl, hok, hb, hf⟩ := hrel
  by_cases hlt : k < 2
  ·obtain ⟨A5, c5, L, hc5, hR5, hL⟩ := great_at hb (hN.fr0 hf) (hB.fr0 hf) hlt
   obtain ⟨g1, g2, g3, g4⟩ := great_step hlt hL
   have hLb := hR5.bound
   have hgs := g4 hok.out
   have G1 := Lib.hid g1
   have G2 := Lib.hid g2
   have G3 := Lib.hid g3
   clear g1 g2 g3 g4 hL
   generalize hgsk : gsum o k = s0 at *
   have HGS := Lib.hid hgsk
   clear hgsk
   by_cases h8 : 8 < L.length
   ·have hd : decide (8 < (L.length : Int)) = true := by simp; omega
    have hR := Lib.hid (G3.out h8)
    go_wp2
    go_ret
    exact ⟨ret_bool hR.out.symm, hf⟩
   ·have hd : decide (8 < (L.length : Int)) = false := by simp; omega
    have hLb2 := sumL_bd L
    go_wp2
    go_loopw [3, 6] (fun s j wr' => ∃ m : Nat, m ≤ L.length ∧ j = .int .i64 m ∧ s = .int .i64 ((s0 + sumL (L.take m) : Nat) : Int) ∧ wr' = wr) (fun _ j _ => L.length - (intOf j).toNat)
    case atStart => exact ⟨0, Nat.zero_le _, rfl, by simp [sumL], rfl⟩
    case round =>
     obtain ⟨m, hm, rfl, rfl, rfl⟩ := hrel
     have hsm : sumL (L.take m) ≤ 800 := by
      have h1 := sumL_bd (L.take m)
      simp at h1
      omega
     by_cases hlt2 : m < L.length
     ·obtain ⟨b6, o6, l, A6, c6, rfl, hx, hc6, hr6⟩ := hR5.at_ hlt2
      have HS := Lib.hid (sumL_snoc hx)
      have hlb := hr6.bound
      generalize sumL (L.take m) = sm at *
      by_cases h100 : l.length ≤ 100
      ·have hmin : Hid (min l.length 100 = l.length) := by show _ = _; omega
       go_wp2
       go_roundw
       case rel => exact ⟨m + 1, by omega, by go_num, by rw [HS.out, hmin.out]; go_num, trivial⟩
       case measure => simp [intOf]; omega
      ·have hmin : Hid (min l.length 100 = 100) := by show _ = _; omega
       have hgt : 100 < l.length := by omega
       go_wp2
       go_roundw
       case rel => exact ⟨m + 1, by omega, by go_num, by rw [HS.out, hmin.out]; go_num, trivial⟩
       case measure => simp [intOf]; omega
     ·rw [List.take_of_length_le (by omega)] at hsm ⊢
      have HH := Lib.hid (G2.out hok.out (by omega))
      rw [G1.out] at *
      go_wp2
      go_roundw
      case rel => exact ⟨k + 1, by omega, by go_num, rfl, HH, hb, hf⟩
      case measure => simp [intOf]; omega
  ·obtain rfl : k = 2 := by omega
   have hR := Lib.hid (great_end hok.out)
   generalize gsum o 2 = s0 at *
   go_wp2
   go_ret
   exact ⟨ret_bool hR.out, hf⟩
end

end Go.Proofs.YtippadnbngcjlaaGreatDoor
