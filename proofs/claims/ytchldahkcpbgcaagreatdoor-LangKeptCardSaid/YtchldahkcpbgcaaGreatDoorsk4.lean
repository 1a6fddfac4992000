/- Texts of this seat, one behind the other: Nam, CntM, Name, SameM. -/
import Derived.Test.YtchldahkcpbgcaaGreatDoorProg
import Derived.Test.YtchldahkcpbgcaaGreatDoorsk2
import Derived.Deep.QuietTactic
import Derived.BigQuiet
import Derived.Outline
import Derived.LoopTactic
namespace Go.Proofs.YtchldahkcpbgcaaGreatDoor
set_option linter.unusedVariables false

/- Letters, digits, the bytes of names. -/
section
open Go.RowKit
set_option linter.unusedSimpArgs false
def lowB (c : Int) : Bool := decide (97 ≤ c ∧ c ≤ 122)
def digB (c : Int) : Bool := decide (48 ≤ c ∧ c ≤ 57)
def partB (c : Int) : Bool := decide ((97 ≤ c ∧ c ≤ 122) ∨ (65 ≤ c ∧ c ≤ 90) ∨ (48 ≤ c ∧ c ≤ 57) ∨ c = 95)
theorem letter_any (c : Int) (w : World) : Calls Tryz.prog 73 #[.int .u8 c] w (RetQ w (.bool (lowB c))) := by
 go_enter Tryz.func73, Tryz.ntmps73
 go_wp2 <;> go_ret <;> refine ⟨ret_bool ?_, 0, rfl⟩ <;> rw [Bool.eq_iff_iff] <;> simp [lowB] <;> omega
theorem wordByte_any (c : Int) (w : World) : Calls Tryz.prog 75 #[.int .u8 c] w (RetQ w (.bool (partB c))) := by
 go_enter Tryz.func75, Tryz.ntmps75
 go_wp2_with fail
 refine (letter_any c _).mono ?_
 rintro e w1 ⟨rfl, n, rfl⟩
 obtain ⟨b, hb⟩ : ∃ b, lowB c = b := ⟨_, rfl⟩
 rw [hb]
 cases b <;> simp [lowB] at hb <;> go_wp2 <;> go_ret <;> refine ⟨ret_bool ?_, n, rfl⟩ <;> rw [Bool.eq_iff_iff] <;> simp [partB] <;> omega
theorem str_eq (s x : ByteArray) : (s.toList == x.toList) = decide (s = x) := by
  cases s with
  | mk a =>
    cases x with
    | mk b =>
      rw [ByteArray.toList_mk, ByteArray.toList_mk, Bool.eq_iff_iff]
      simp
theorem str_ne {s x : ByteArray} (h : ¬ s = x) : (s.toList == x.toList) = false := by rw [str_eq]; simpa using h
theorem drop_at {α : Type} {l : List α} {k : Nat} {x : α} (h : Hid (l[k]? = some x)) : l.drop k = x :: l.drop (k + 1) := by
 have hk : k < l.length := (List.getElem?_eq_some_iff.1 h.out).1
 rw [List.drop_eq_getElem_cons hk]
 have := List.getElem?_eq_getElem hk
 rw [h.out] at this
 injection this with this
 rw [this]
def idxFrom (s : ByteArray) : List ByteArray → Nat → Int
 | [], _ => -1
 | x :: l, k => if s = x then k else idxFrom s l (k + 1)
def idxS (l : List ByteArray) (s : ByteArray) : Int := idxFrom s l 0
theorem idx_eq {l : List ByteArray} {s : ByteArray} {k : Nat} (HE : Hid (idxFrom s (l.drop k) k = idxS l s)) (h : Hid (l[k]? = some s)) : idxS l s = k := by
 rw [← HE.out, drop_at h, idxFrom, if_pos rfl]
theorem idx_ne {l : List ByteArray} {s x : ByteArray} {k : Nat} (HE : Hid (idxFrom s (l.drop k) k = idxS l s)) (h : Hid (l[k]? = some x)) (hn : ¬ s = x) : Hid (idxFrom s (l.drop (k + 1)) (k + 1) = idxS l s) := by
 show _ = _
 rw [← HE.out, drop_at h, idxFrom, if_neg hn]
theorem idx_end {l : List ByteArray} {s : ByteArray} {k : Nat} (HE : Hid (idxFrom s (l.drop k) k = idxS l s)) (h : l.length ≤ k) : idxS l s = -1 := by
 rw [← HE.out, List.drop_of_length_le h]
 rfl
set_option maxHeartbeats 400000 in
theorem Index_any (A : Option Addr) (c : Nat) (l : List ByteArray) (s : ByteArray) (w : World) (ha : Rd w .string A c l) :
  Calls Tryz.prog 80 #[.slice A l.length c, .string s] w (RetQ w (.int .i64 (idxS l s))) := by
 have hb := ha.bound
 go_enter Tryz.func80, Tryz.ntmps80
 go_wp2
 go_loopw [8] (fun i wr => ∃ k : Nat, k ≤ l.length ∧ i = .int .i64 k ∧ Hid (idxFrom s (l.drop k) k = idxS l s) ∧ ∃ n, wr = w.drewN n) (fun i _ => l.length - (intOf i).toNat)
 case atStart => exact ⟨0, Nat.zero_le _, rfl, rfl, 0, rfl⟩
 case round =>
  obtain ⟨k, hk, rfl, HE, n, rfl⟩ := hrel
  by_cases hlt : k < l.length
  ·obtain ⟨b1, o1, x, rfl, hx, hc1⟩ := ha.at_ hlt
   by_cases hsx : s = x
   ·subst hsx
    go_wp2
    go_ret
    exact ⟨ret_int (idx_eq HE hx).symm, n, rfl⟩
   ·have hq := str_ne hsx
    have HN := idx_ne HE hx hsx
    clear hsx
    go_wp2
    go_roundw
    case rel => exact ⟨k + 1, by omega, by go_num, HN, n, rfl⟩
    case measure => simp [intOf]; omega
  ·go_wp2
   go_ret
   exact ⟨ret_int (idx_end HE (by omega)).symm, n, rfl⟩
theorem idxFrom_cases (s : ByteArray) : ∀ (l : List ByteArray) (k : Nat), (s ∈ l ∧ (k : Int) ≤ idxFrom s l k ∧ idxFrom s l k < (k : Int) + l.length) ∨ (s ∉ l ∧ idxFrom s l k = -1)
  | [], k => .inr ⟨by simp, rfl⟩
  | x :: l, k => by
    rw [idxFrom]
    by_cases h : s = x
    · subst h
      rw [if_pos rfl]
      exact .inl ⟨by simp, by omega, by simp; omega⟩
    · rw [if_neg h]
      rcases idxFrom_cases s l (k + 1) with ⟨h1, h2, h3⟩ | ⟨h1, h2⟩
      · exact .inl ⟨List.mem_cons_of_mem _ h1, by omega, by simp; omega⟩
      · exact .inr ⟨by simp [h, h1], h2⟩
def inS (l : List ByteArray) (s : ByteArray) : Bool := decide (0 ≤ idxS l s)
theorem inS_iff {l : List ByteArray} {s : ByteArray} : inS l s = true ↔ s ∈ l := by
 unfold inS idxS
 rcases idxFrom_cases s l 0 with ⟨h1, h2, _⟩ | ⟨h1, h2⟩
 ·simp [h1]
  omega
 ·simp [h1, h2]
theorem Contains_any (A : Option Addr) (c : Nat) (l : List ByteArray) (s : ByteArray) (w : World) (ha : Rd w .string A c l) :
  Calls Tryz.prog 142 #[.slice A l.length c, .string s] w (RetQ w (.bool (inS l s))) := by
 go_enter Tryz.func142, Tryz.ntmps142
 go_wp2_with fail
 refine (Index_any A c l s _ ha).mono ?_
 rintro e w1 ⟨rfl, n, rfl⟩
 go_wp2
 go_ret
 exact ⟨rfl, n, rfl⟩
end

/- How many nodes, how deep: plain. -/
section
open Go.RowKit
set_option linter.unusedSimpArgs false
mutual
def Nd.cnt : Nd → Nat | .mk _ _ _ s _ b e => 1 + cntL s + cntL b + cntL e
def cntL : List Nd → Nat | [] => 0 | x :: l => x.cnt + cntL l
end
mutual
def Nd.dep : Nd → Nat | .mk _ _ _ s _ b e => max (max (max 0 (depL s)) (depL b)) (depL e) + 1
def depL : List Nd → Nat | [] => 0 | x :: l => max x.dep (depL l)
end
theorem Nd.cnt_eq (x : Nd) : x.cnt = 1 + cntL x.subs + cntL x.body + cntL x.els := by
 cases x
 rw [Nd.cnt]
 rfl
theorem Nd.dep_eq (x : Nd) : x.dep = max (max (max 0 (depL x.subs)) (depL x.body)) (depL x.els) + 1 := by
 cases x
 rw [Nd.dep]
 rfl
theorem Nd.cnt_pos (x : Nd) : 1 ≤ x.cnt := by rw [Nd.cnt_eq]; omega
theorem cntL_app : ∀ l m : List Nd, cntL (l ++ m) = cntL l + cntL m
 | [], m => by simp [cntL]
 | x :: l, m => by rw [List.cons_append, cntL, cntL, cntL_app l m]; omega
theorem depL_app : ∀ l m : List Nd, depL (l ++ m) = max (depL l) (depL m)
 | [], m => by simp [depL]
 | x :: l, m => by rw [List.cons_append, depL, depL, depL_app l m]; omega
section
variable {l : List Nd} {k : Nat} {x : Nd}
theorem take_at {α : Type} {l : List α} {k : Nat} {x : α} (h : Hid (l[k]? = some x)) : l.take (k + 1) = l.take k ++ [x] := by rw [List.take_add_one, h.out]; rfl
theorem cntL_take (h : Hid (l[k]? = some x)) : cntL (l.take (k + 1)) = cntL (l.take k) + x.cnt := by
 rw [take_at h, cntL_app]
 simp [cntL]
theorem depL_take (h : Hid (l[k]? = some x)) : depL (l.take (k + 1)) = max (depL (l.take k)) x.dep := by
 rw [take_at h, depL_app]
 simp [depL]
theorem cntL_take_le (l : List Nd) (k : Nat) : cntL (l.take k) ≤ cntL l := by
 conv => rhs; rw [← List.take_append_drop k l, cntL_app]
 omega
theorem cntL_mem (h : x ∈ l) : x.cnt ≤ cntL l := by
 obtain ⟨a, b, rfl⟩ := List.append_of_mem h
 rw [cntL_app, cntL]
 omega
theorem depL_mem (h : x ∈ l) : x.dep ≤ depL l := by
 obtain ⟨a, b, rfl⟩ := List.append_of_mem h
 rw [depL_app, depL]
 omega
end
mutual
theorem Nd.dep_le : ∀ x : Nd, x.dep ≤ x.cnt
  | .mk k t m s p b e => by
    have h1 := depL_le s
    have h2 := depL_le b
    have h3 := depL_le e
    rw [Nd.dep, Nd.cnt]
    omega
theorem depL_le : ∀ l : List Nd, depL l ≤ cntL l
  | [] => Nat.le_refl _
  | x :: l => by
    have h1 := x.dep_le
    have h2 := depL_le l
    rw [depL, cntL]
    omega
end
def partL (x : Nd) : Nat → List Nd
 | 0 => x.subs
 | 1 => x.body
 | _ => x.els
def sumTo (x : Nd) : Nat → Nat
 | 0 => 0
 | k + 1 => sumTo x k + cntL (partL x k)
def depTo (x : Nd) : Nat → Nat
 | 0 => 0
 | k + 1 => max (depTo x k) (depL (partL x k))
theorem sumTo_3 (x : Nd) : 1 + sumTo x 3 = x.cnt := by
 rw [Nd.cnt_eq]
 simp only [sumTo, partL]
 omega
theorem depTo_3 (x : Nd) : depTo x 3 + 1 = x.dep := by
 rw [Nd.dep_eq]
 rfl
theorem sumTo_le (x : Nd) {k : Nat} (h : k ≤ 3) : 1 + sumTo x k ≤ x.cnt := by
 rw [← sumTo_3]
 match k, h with
 | 0, _ => simp only [sumTo]; omega
 | 1, _ => simp only [sumTo]; omega
 | 2, _ => simp only [sumTo]; omega
 | 3, _ => simp only [sumTo]; omega
theorem depTo_le (x : Nd) {k : Nat} (h : k ≤ 3) : depTo x k ≤ x.cnt := by
 have h3 := depTo_3 x
 have h4 := x.dep_le
 have : depTo x k ≤ depTo x 3 := by
  match k, h with
  | 0, _ => simp only [depTo]; omega
  | 1, _ => simp only [depTo]; omega
  | 2, _ => simp only [depTo]; omega
  | 3, _ => exact Nat.le_refl _
 omega
end

/- Names and operators. -/
section
open Go.RowKit
set_option linter.unusedSimpArgs false
def kwL : List ByteArray := [bt [102, 117, 110], bt [108, 101, 116], bt [105, 102], bt [101, 108, 115, 101], bt [119, 104, 105, 108, 101], bt [114, 101, 116, 117, 114, 110], bt [116, 104, 114, 111, 119], bt [116, 114, 121], bt [99, 97, 116, 99, 104], bt [115, 112, 97, 119, 110], bt [106, 111, 105, 110], bt [108, 111, 99, 107], bt [117, 110, 108, 111, 99, 107], bt [112, 114, 105, 110, 116], bt [97, 115, 115, 101, 114, 116], bt [110, 101, 119], bt [108, 101, 110], bt [105, 110, 112, 117, 116], bt [99, 108, 111, 99, 107], bt [102, 110]]
def opL : List ByteArray := [bt [43], bt [45], bt [42], bt [47], bt [37], bt [61, 61], bt [33, 61], bt [60], bt [60, 61], bt [62], bt [62, 61], bt [38], bt [124]]
def mkL : List ByteArray := [bt [61, 61], bt [33, 61], bt [60, 61], bt [62, 61], bt [43], bt [45], bt [42], bt [47], bt [37], bt [60], bt [62], bt [38], bt [124], bt [33], bt [61], bt [40], bt [41], bt [123], bt [125], bt [91], bt [93], bt [44], bt [59], bt [46]]
theorem Rd.lit {α : Type} (w : World) (t : TypeId) (enc : α → Value) (xs : List α) (H : Nat) (hH : H = w.heap.size) (hm : xs.length ≤ 1000) : Rd (w.alloc (.cells (xs.map enc).toArray t)) enc (some ⟨H, 0, none⟩) xs.length xs :=
 Rd.of_blk (Blk.new w t _ H hH) (by unfold maxLen; omega)
def RetRd {α : Type} (w : World) (enc : α → Value) (xs : List α) (e : Ending) (w' : World) : Prop := ∃ A c, e = .returned (.slice A xs.length c) ∧ Fr [] w w' ∧ Rd w' enc A c xs
theorem keyword_any (s : ByteArray) (w : World) : Calls Tryz.prog 74 #[.string s] w (RetV w (.bool (inS kwL s))) := by
 go_enter Tryz.func74, Tryz.ntmps74
 go_wp2_with fail
 have r1 := Rd.lit w 9 .string kwL _ rfl (by simp [kwL])
 refine (Contains_any _ _ kwL s _ r1).mono ?_
 rintro e w1 ⟨rfl, n, rfl⟩
 go_wp2
 go_ret
 exact ⟨rfl, frx⟩
theorem operators_any (w : World) : Calls Tryz.prog 81 #[] w (RetRd w .string opL) := by
 go_enter Tryz.func81, Tryz.ntmps81
 go_wp2
 go_ret
 exact ⟨_, _, rfl, frx, Rd.lit w 9 .string opL _ rfl (by simp [opL])⟩
theorem Operator_any (s : ByteArray) (w : World) : Calls Tryz.prog 22 #[.string s] w (RetV w (.int .i64 (idxS opL s))) := by
 go_enter Tryz.func22, Tryz.ntmps22
 go_wp2_with fail
 refine (operators_any _).mono ?_
 rintro e w1 ⟨A, c, rfl, hf, hr⟩
 go_wp2_with fail
 refine (Index_any A c opL s _ hr).mono ?_
 rintro e w2 ⟨rfl, n, rfl⟩
 go_wp2
 go_ret
 exact ⟨rfl, frx⟩
theorem str_empty (s : ByteArray) : s.toList.isEmpty = decide (s.size = 0) := by
  cases s with
  | mk a =>
    rw [ByteArray.toList_mk, Bool.eq_iff_iff]
    simp [ByteArray.size]
def byteAt (s : ByteArray) (k : Nat) : Int := ((s.data[k]?).map fun c => (c.toNat : Int)).getD 0
theorem byteAt_eq {s : ByteArray} {k : Nat} (h : k < s.size) : ((s[k]).toNat : Int) = byteAt s k := by
 have h' : k < s.data.size := h
 unfold byteAt
 rw [Array.getElem?_eq_getElem h']
 rfl
def nameOk (s : ByteArray) : Bool := decide (0 < s.size ∧ s.size ≤ 16) && lowB (byteAt s 0) && !inS kwL s && decide (∀ k, k < s.size → partB (byteAt s k) = true)
theorem nameOk_empty {s : ByteArray} (h : s = ByteArray.empty) : nameOk s = false := by subst h; rfl
theorem nameOk_long {s : ByteArray} (h : ¬ s.size ≤ 16) : nameOk s = false := by simp [nameOk, h]
theorem nameOk_low {s : ByteArray} (h : lowB (byteAt s 0) = false) : nameOk s = false := by simp [nameOk, h]
theorem nameOk_kw {s : ByteArray} (h : inS kwL s = true) : nameOk s = false := by simp [nameOk, h]
theorem nameOk_part {s : ByteArray} {k : Nat} (hk : k < s.size) (h : partB (byteAt s k) = false) : nameOk s = false := by
 have : ¬ ∀ k, k < s.size → partB (byteAt s k) = true := fun h1 => by rw [h1 k hk] at h; cases h
 simp [nameOk, this]
theorem nameOk_all {s : ByteArray} (h0 : 0 < s.size) (h1 : s.size ≤ 16) (h2 : lowB (byteAt s 0) = true) (h3 : inS kwL s = false) (h4 : ∀ k, k < s.size → partB (byteAt s k) = true) : nameOk s = true := by
 unfold nameOk
 rw [h2, h3, decide_eq_true h4, decide_eq_true ⟨h0, h1⟩]
 rfl
set_option maxRecDepth 20000 in
set_option maxHeartbeats 400000 in
theorem Name_any (s : ByteArray) (w : World) (hmax : s.size ≤ 9223372036854775807) : Calls Tryz.prog 20 #[.string s] w (RetV w (.bool (nameOk s))) := by
 by_cases h0 : s = ByteArray.empty
 ·rw [nameOk_empty h0]
  subst h0
  go_enter Tryz.func20, Tryz.ntmps20
  go_wp2
  go_ret
  exact ⟨rfl, frx⟩
 have hz : 0 < s.size := by
  rcases Nat.eq_zero_or_pos s.size with h | h
  ·exact absurd (ByteArray.size_eq_zero_iff.1 h) h0
  ·exact h
 by_cases hlen : s.size ≤ 16
 ·have H3 := Lib.hid (byteAt_eq hz)
  obtain ⟨b1, hb1⟩ : ∃ b, lowB (byteAt s 0) = b := ⟨_, rfl⟩
  obtain ⟨b2, hb2⟩ : ∃ b, inS kwL s = b := ⟨_, rfl⟩
  have hA : ((s.size : Int) == 0) = false := by simp; omega
  have hB : decide (16 < (s.size : Int)) = false := by simp; omega
  have L0 := Lib.hid (fun h => nameOk_low (s := s) h)
  have L1 := Lib.hid (fun h => nameOk_kw (s := s) h)
  have L2 := Lib.hid (fun k hk h => nameOk_part (s := s) (k := k) hk h)
  have L3 := Lib.hid (fun h1 h2 h3 => nameOk_all (s := s) hz hlen h1 h2 h3)
  go_enter Tryz.func20, Tryz.ntmps20
  go_wp2_with fail
  refine (letter_any _ _).mono ?_
  rw [H3.out, hb1]
  rintro e w1 ⟨rfl, n, rfl⟩
  cases b1
  ·have hb1 := Lib.hid hb1
   go_wp2
   go_ret
   exact ⟨ret_bool (L0.out hb1.out).symm, frx⟩
  ·have hb1 := Lib.hid hb1
   go_wp2_with fail
   refine (keyword_any s _).mono ?_
   rw [hb2]
   rintro e w2 ⟨rfl, hf2⟩
   have hf2 : Fr [] w w2 := ((Fr.refl _ _).drewN n).trans hf2
   cases b2
   ·have hb2 := Lib.hid hb2
    go_wp2
    go_loopw [24] (fun i wr => ∃ k : Nat, k ≤ s.size ∧ i = .int .i64 k ∧ Hid (∀ j, j < k → partB (byteAt s j) = true) ∧ Fr [] w wr) (fun i _ => s.size - (intOf i).toNat)
    case atStart => exact ⟨0, Nat.zero_le _, rfl, Lib.hid (fun j hj => absurd hj (Nat.not_lt_zero j)), hf2⟩
    case round =>
     obtain ⟨k, hk, rfl, HA, hf⟩ := hrel
     by_cases hlt : k < s.size
     ·have HK := Lib.hid (byteAt_eq hlt)
      obtain ⟨b3, hb3⟩ : ∃ b, partB (byteAt s k) = b := ⟨_, rfl⟩
      go_wp2_with fail
      refine (wordByte_any _ _).mono ?_
      rw [HK.out, hb3]
      rintro e w3 ⟨rfl, n3, rfl⟩
      cases b3
      ·have hb3 := Lib.hid hb3
       go_wp2
       go_ret
       exact ⟨ret_bool (L2.out k hlt hb3.out).symm, frx⟩
      ·have HB : Hid (∀ j, j < k + 1 → partB (byteAt s j) = true) := Lib.hid (fun j hj => by
        rcases Nat.lt_or_ge j k with h | h
        ·exact HA.out j h
        ·obtain rfl : j = k := by omega
         exact hb3)
       clear hb3
       go_wp2
       go_roundw
       case rel => exact ⟨k + 1, by omega, by go_num, HB, frx⟩
       case measure => simp [intOf]; omega
     ·have hall := L3.out hb1.out hb2.out (fun j hj => HA.out j (by omega))
      have hall := Lib.hid hall
      go_wp2
      go_ret
      exact ⟨ret_bool hall.out.symm, frx⟩
   ·have hb2 := Lib.hid hb2
    go_wp2
    go_ret
    exact ⟨ret_bool (L1.out hb2.out).symm, frx⟩
 ·rw [nameOk_long hlen]
  go_enter Tryz.func20, Tryz.ntmps20
  go_wp2
  go_ret
  exact ⟨rfl, frx⟩
end

/- Equality of nodes and programs: plain. -/
section
open Go.RowKit
set_option linter.unusedSimpArgs false
mutual
def Nd.eqB : Nd → Nd → Bool
  | .mk k t m s p b e, y => decide (k = y.kind) && (decide (t = y.text) && (decide (m = y.num) && (decide (p = y.params) && (eqL s y.subs && (eqL b y.body && eqL e y.els)))))
def eqL : List Nd → List Nd → Bool
  | [], l => decide (l.length = 0)
  | x :: l, m => match m with
    | [] => false
    | y :: m => x.eqB y && eqL l m
end
theorem Nd.eqB_eq (x y : Nd) : x.eqB y = (decide (x.kind = y.kind) && (decide (x.text = y.text) && (decide (x.num = y.num) && (decide (x.params = y.params) && (eqL x.subs y.subs && (eqL x.body y.body && eqL x.els y.els)))))) := by
 cases x
 rw [Nd.eqB]
 rfl
theorem eqL_of (l : List Nd) (h : ∀ x ∈ l, ∀ y, x.eqB y = true ↔ x = y) : ∀ m, eqL l m = true ↔ l = m := by
  induction l with
  | nil =>
    intro m
    rw [eqL, decide_eq_true_eq, List.length_eq_zero_iff]
    exact ⟨fun h => h.symm, fun h => h.symm⟩
  | cons x l ih =>
    intro m
    cases m with
    | nil => rw [eqL]; simp
    | cons y m =>
      rw [eqL, Bool.and_eq_true, h x (by simp), ih (fun z hz => h z (List.mem_cons_of_mem _ hz)), List.cons.injEq]
theorem Nd.eqB_iff (x : Nd) : ∀ y : Nd, x.eqB y = true ↔ x = y := by
  induction x using Nd.ind with
  | h x hs hb he =>
    intro y
    rw [Nd.eqB_eq]
    simp only [Bool.and_eq_true, decide_eq_true_eq, eqL_of _ hs, eqL_of _ hb, eqL_of _ he]
    refine ⟨fun h => ?_, fun h => by subst h; exact ⟨rfl, rfl, rfl, rfl, rfl, rfl, rfl⟩⟩
    obtain ⟨h1, h2, h3, h4, h5, h6, h7⟩ := h
    rw [← x.eta, ← y.eta, h1, h2, h3, h4, h5, h6, h7]
theorem eqL_iff (l m : List Nd) : eqL l m = true ↔ l = m := eqL_of l (fun x _ y => x.eqB_iff y) m
theorem eqL_self (l : List Nd) : eqL l l = true := (eqL_iff l l).2 rfl
theorem eqL_len {l m : List Nd} (h : ¬ l.length = m.length) : eqL l m = false := by
 cases hb : eqL l m with
 | false => rfl
 | true => rw [(eqL_iff l m).1 hb] at h; exact absurd rfl h
def Fu.eqB (f g : Fu) : Bool := decide (f.name = g.name) && (decide (f.params = g.params) && eqL f.body g.body)
theorem Fu.eqB_iff (f g : Fu) : f.eqB g = true ↔ f = g := by
 unfold Fu.eqB
 simp only [Bool.and_eq_true, decide_eq_true_eq, eqL_iff]
 cases f
 cases g
 simp
def eqFs : List Fu → List Fu → Bool
 | [], [] => true
 | f :: fs, g :: gs => f.eqB g && eqFs fs gs
 | _, _ => false
theorem eqFs_iff : ∀ fs gs : List Fu, eqFs fs gs = true ↔ fs = gs
 | [], [] => by simp [eqFs]
 | [], g :: gs => by simp [eqFs]
 | f :: fs, [] => by simp [eqFs]
 | f :: fs, g :: gs => by rw [eqFs, Bool.and_eq_true, Fu.eqB_iff, eqFs_iff fs gs, List.cons.injEq]
theorem eqFs_self (l : List Fu) : eqFs l l = true := (eqFs_iff l l).2 rfl
section
variable {α : Type} {l m : List α} {k : Nat} {x y : α}
theorem eq_step (h : l.take k = m.take k) (hx : Hid (l[k]? = some x)) (hy : Hid (m[k]? = some y)) (he : x = y) : l.take (k + 1) = m.take (k + 1) := by
 rw [take_at hx, take_at hy, h, he]
theorem ne_step (hx : Hid (l[k]? = some x)) (hy : Hid (m[k]? = some y)) (he : x ≠ y) : l ≠ m := by
 intro h
 subst h
 exact he (Option.some.inj (hx.out.symm.trans hy.out))
end
theorem eqL_ne {l m : List Nd} (h : l ≠ m) : eqL l m = false := by
 cases hb : eqL l m with
 | false => rfl
 | true => exact absurd ((eqL_iff l m).1 hb) h
theorem eqFs_ne {l m : List Fu} (h : l ≠ m) : eqFs l m = false := by
 cases hb : eqFs l m with
 | false => rfl
 | true => exact absurd ((eqFs_iff l m).1 hb) h
end

end Go.Proofs.YtchldahkcpbgcaaGreatDoor
