/- Texts of this seat, one behind the other: Ref1, Ref2, Play, End, Ver, Betw, Quest, Same, FrP, Low, Nodes, Deep, Depth, Meas, Huge. -/
import Derived.Test.YtippadnbngcjlaaGreatDoorProg
import Derived.Test.YtippadnbngcjlaaGreatDoorh11
import Derived.Deep.QuietTactic
import Derived.BigQuiet
import Derived.Outline
import Derived.LoopTactic
namespace Go.Proofs.YtippadnbngcjlaaGreatDoor
set_option linter.unusedVariables false

/- The contracts of the reference's small functions on lists. -/
section
open Go.RowKit
theorem take_succ_eq {xs ys : List Int} {k : Nat} {x y : Int} (h : xs.take k = ys.take k) (hx : Hid (xs[k]? = some x)) (hy : Hid (ys[k]? = some y)) (e : x = y) : xs.take (k + 1) = ys.take (k + 1) := by
 rw [List.take_add_one, List.take_add_one, h, hx.out, hy.out, e]
theorem ne_of_at {xs ys : List Int} {k : Nat} {x y : Int} (hx : Hid (xs[k]? = some x)) (hy : Hid (ys[k]? = some y)) (e : x ≠ y) : xs ≠ ys := by
 rintro rfl
 exact e (by have := hx.out.symm.trans hy.out; simpa using this)
set_option maxHeartbeats 400000 in
theorem Ints_any (A B : Option Addr) (ca cb : Nat) (xs ys : List Int) (w : World) (ha : Rd w (.int .i64) A ca xs) (hb : Rd w (.int .i64) B cb ys) :
  Calls Tryz.prog 51 #[.slice A xs.length ca, .slice B ys.length cb] w (RetQ w (.bool (decide (xs = ys)))) := by
 have ha1 := ha.bound
 have hb1 := hb.bound
 by_cases hl : xs.length = ys.length
 ·have hl1 : (xs.length : Int) ≤ ys.length := by omega
  have hl2 : (ys.length : Int) ≤ xs.length := by omega
  have HL := Lib.hid hl
  clear hl
  go_enter Tryz.func51, Tryz.ntmps51
  go_wp2
  go_loopw [5] (fun i wr => ∃ k : Nat, k ≤ xs.length ∧ i = .int .i64 k ∧ xs.take k = ys.take k ∧ ∃ n, wr = w.drewN n) (fun i _ => xs.length - (intOf i).toNat)
  case atStart => exact ⟨0, Nat.zero_le _, rfl, by simp, 0, rfl⟩
  case round =>
   obtain ⟨k, hk, rfl, heq, n, rfl⟩ := hrel
   have HE := Lib.hid heq
   clear heq
   by_cases hlt : k < xs.length
   ·obtain ⟨b1, o1, x, rfl, hx, hc1⟩ := ha.at_ hlt
    obtain ⟨b2, o2, y, rfl, hy, hc2⟩ := hb.at_ (k := k) (by omega)
    go_wp2
    go_quiet (fail)
    go_wp2
    ·have hne : x ≠ y := by first | (have := ‹(x != y) = true›; simpa using this) | assumption
     go_ret
     refine ⟨ret_bool ?_, _, World.drewN_drewN ..⟩
     simp [ne_of_at hx hy hne]
    ·have he : x = y := by first | (have := ‹(x != y) = false›; simpa using this) | (have := ‹¬ (x != y) = true›; simpa using this) | assumption
     go_roundw
     case rel => exact ⟨k + 1, by omega, by go_num, take_succ_eq HE.out hx hy he, _, by first | rfl | exact World.drewN_drewN ..⟩
     case measure => simp [intOf]; omega
   ·go_wp2
    go_ret
    refine ⟨ret_bool ?_, _, rfl⟩
    have h := HE.out
    have hl := HL.out
    rw [List.take_of_length_le (by omega), List.take_of_length_le (by omega)] at h
    simp [h]
 ·have hl1 : ((xs.length : Int) != ys.length) = true := by simp; omega
  have HL := Lib.hid hl
  clear hl
  go_enter Tryz.func51, Tryz.ntmps51
  go_wp2
  go_ret
  refine ⟨ret_bool ?_, 0, rfl⟩
  simp
  intro h
  exact HL.out (by rw [h])
def told (v : Int) : Int := if v = 1 ∨ v = 2 then v else 3
theorem plain_any (v : Int) (w : World) : Calls Tryz.prog 92 #[.int .u8 v] w (RetQ w (.int .u8 (told v))) := by
 by_cases h1 : v = 1
 ·subst h1
  go_enter Tryz.func92, Tryz.ntmps92
  go_wp2
  go_ret
  exact ⟨rfl, 0, rfl⟩
 ·by_cases h2 : v = 2
  ·subst h2
   go_enter Tryz.func92, Tryz.ntmps92
   go_wp2
   go_ret
   exact ⟨rfl, 0, rfl⟩
  ·have b1 : (v == 1) = false := by simpa using h1
   have b2 : (v == 2) = false := by simpa using h2
   have ht := Lib.hid (show told v = 3 by simp [told, h1, h2])
   clear h1 h2
   go_enter Tryz.func92, Tryz.ntmps92
   go_wp2
   go_ret
   exact ⟨ret_int ht.out.symm, 0, rfl⟩
theorem mem_take_succ {xs : List Int} {k : Nat} {x n : Int} (h : n ∉ xs.take k) (hx : Hid (xs[k]? = some x)) (e : ¬ x = n) : n ∉ xs.take (k + 1) := by
 rw [List.take_add_one, hx.out]
 simp
 exact ⟨h, fun h => e h.symm⟩
theorem mem_of_at {xs : List Int} {k : Nat} {x n : Int} (hx : Hid (xs[k]? = some x)) (e : x = n) : n ∈ xs := e ▸ List.mem_of_getElem? hx.out
theorem Has_any (A : Option Addr) (c : Nat) (xs : List Int) (n : Int) (w : World) (ha : Rd w (.int .i64) A c xs) :
  Calls Tryz.prog 41 #[.slice A xs.length c, .int .i64 n] w (RetQ w (.bool (decide (n ∈ xs)))) := by
 have ha1 := ha.bound
 go_enter Tryz.func41, Tryz.ntmps41
 go_wp2
 go_loop [5] (fun i => ∃ k : Nat, k ≤ xs.length ∧ i = .int .i64 k ∧ n ∉ xs.take k) (fun i => xs.length - (intOf i).toNat)
 case atStart => exact ⟨0, Nat.zero_le _, rfl, by simp⟩
 case round =>
  obtain ⟨k, hk, rfl, heq⟩ := hrel
  have HE := Lib.hid heq
  clear heq
  by_cases hlt : k < xs.length
  ·obtain ⟨b1, o1, x, rfl, hx, hc1⟩ := ha.at_ hlt
   go_wp2
   ·have he : x = n := by first | (have := ‹(x == n) = true›; simpa using this) | assumption
    go_ret
    refine ⟨ret_bool ?_, 0, rfl⟩
    simp [mem_of_at hx he]
   ·have he : ¬ x = n := by first | (have := ‹(x == n) = false›; simpa using this) | (have := ‹¬ (x == n) = true›; simpa using this) | assumption
    go_round
    case rel => exact ⟨k + 1, by omega, by go_num, mem_take_succ HE.out hx he⟩
    case measure => simp [intOf]; omega
  ·go_wp2
   go_ret
   refine ⟨ret_bool ?_, 0, rfl⟩
   have h := HE.out
   rw [List.take_of_length_le (by omega)] at h
   simp [h]
theorem has_any (A : Option Addr) (c : Nat) (xs : List Int) (n : Int) (w : World) (ha : Rd w (.int .i64) A c xs) :
  Calls Tryz.prog 47 #[.slice A xs.length c, .int .i64 n] w (RetQ w (.bool (decide (n ∈ xs)))) := by
 have ha1 := ha.bound
 go_enter Tryz.func47, Tryz.ntmps47
 go_wp2
 go_loop [9] (fun i => ∃ k : Nat, k ≤ xs.length ∧ i = .int .i64 k ∧ n ∉ xs.take k) (fun i => xs.length - (intOf i).toNat)
 case atStart => exact ⟨0, Nat.zero_le _, rfl, by simp⟩
 case round =>
  obtain ⟨k, hk, rfl, heq⟩ := hrel
  have HE := Lib.hid heq
  clear heq
  by_cases hlt : k < xs.length
  ·obtain ⟨b1, o1, x, rfl, hx, hc1⟩ := ha.at_ hlt
   go_wp2
   ·have he : x = n := by first | (have := ‹(x == n) = true›; simpa using this) | assumption
    go_ret
    refine ⟨ret_bool ?_, 0, rfl⟩
    simp [mem_of_at hx he]
   ·have he : ¬ x = n := by first | (have := ‹(x == n) = false›; simpa using this) | (have := ‹¬ (x == n) = true›; simpa using this) | assumption
    go_round
    case rel => exact ⟨k + 1, by omega, by go_num, mem_take_succ HE.out hx he⟩
    case measure => simp [intOf]; omega
  ·go_wp2
   go_ret
   refine ⟨ret_bool ?_, 0, rfl⟩
   have h := HE.out
   rw [List.take_of_length_le (by omega)] at h
   simp [h]
def chain (n : Int) : Int → List Int → Bool
 | _, [] => true
 | p, x :: xs => decide (p < x) && decide (0 ≤ x) && decide (x < n) && chain n x xs
def isSet (n : Int) (xs : List Int) : Bool := chain n (-1) xs
def prevAt (xs : List Int) (k : Nat) : Int := if k = 0 then -1 else xs.getD (k - 1) 0
theorem chain_step {n : Int} {xs : List Int} {k : Nat} {x : Int} (hx : Hid (xs[k]? = some x)) (p : Int) :
  chain n p (xs.drop k) = (decide (p < x) && decide (0 ≤ x) && decide (x < n) && chain n x (xs.drop (k + 1))) := by
 have hk : k < xs.length := (List.getElem?_eq_some_iff.1 hx.out).1
 have he : xs[k] = x := (List.getElem?_eq_some_iff.1 hx.out).2
 rw [List.drop_eq_getElem_cons hk, he, chain]
theorem prevAt_succ {xs : List Int} {k : Nat} {x : Int} (hx : Hid (xs[k]? = some x)) : prevAt xs (k + 1) = x := by
 simp [prevAt, hx.out]
theorem set_low {n : Int} {xs : List Int} {k : Nat} {x : Int} (hx : Hid (xs[k]? = some x)) (h : Hid (isSet n xs = chain n (prevAt xs k) (xs.drop k))) (hb : x < 0 ∨ n ≤ x) : isSet n xs = false := by
 rw [h.out, chain_step hx]
 rcases hb with hb | hb <;> simp <;> intros <;> omega
theorem set_on {n : Int} {xs : List Int} {k : Nat} {x : Int} (hx : Hid (xs[k]? = some x)) (h : Hid (isSet n xs = chain n (prevAt xs k) (xs.drop k))) (h0 : 0 ≤ x) (hn : x < n) (hp : prevAt xs k < x) : isSet n xs = chain n (prevAt xs (k + 1)) (xs.drop (k + 1)) := by
 rw [h.out, chain_step hx, prevAt_succ hx]
 simp [h0, hn, hp]
theorem set_bad {n : Int} {xs : List Int} {k : Nat} {x : Int} (hx : Hid (xs[k]? = some x)) (h : Hid (isSet n xs = chain n (prevAt xs k) (xs.drop k))) (hp : x ≤ prevAt xs k) : isSet n xs = false := by
 rw [h.out, chain_step hx]
 simp; intros; omega
theorem prevAt_pos {xs : List Int} {k : Nat} {y : Int} (hk : ¬ k = 0) (hy : Hid (xs[k - 1]? = some y)) : prevAt xs k = y := by
 simp [prevAt, hk, hy.out]
set_option maxHeartbeats 800000 in
theorem Set_any (A : Option Addr) (c : Nat) (xs : List Int) (n : Int) (w : World) (ha : Rd w (.int .i64) A c xs) :
  Calls Tryz.prog 68 #[.slice A xs.length c, .int .i64 n] w (RetQ w (.bool (isSet n xs))) := by
 have ha1 := ha.bound
 go_enter Tryz.func68, Tryz.ntmps68
 go_wp2
 go_loopw [5] (fun i wr => ∃ k : Nat, k ≤ xs.length ∧ i = .int .i64 k ∧ isSet n xs = chain n (prevAt xs k) (xs.drop k) ∧ ∃ m, wr = w.drewN m) (fun i _ => xs.length - (intOf i).toNat)
 case atStart => exact ⟨0, Nat.zero_le _, rfl, by simp [isSet, prevAt], 0, rfl⟩
 case round =>
  obtain ⟨k, hk, rfl, heq, m, rfl⟩ := hrel
  have HE := Lib.hid heq
  clear heq
  by_cases hlt : k < xs.length
  ·obtain ⟨b1, o1, x, hA, hx, hc1⟩ := ha.at_ hlt
   by_cases h0 : x < 0
   ·subst hA
    have d0 : decide (x < 0) = true := by simpa using h0
    go_wp2
    go_quiet (fail)
    go_wp2
    go_ret
    exact ⟨ret_bool (set_low hx HE (.inl h0)).symm, _, by first | rfl | exact World.drewN_drewN ..⟩
   ·have h0' : 0 ≤ x := by omega
    have d0 : decide (x < 0) = false := by simpa using h0
    by_cases hn : n ≤ x
    ·subst hA
     have d1 : decide (n ≤ x) = true := by simpa using hn
     go_wp2
     go_quiet (fail)
     go_wp2
     go_ret
     exact ⟨ret_bool (set_low hx HE (.inr hn)).symm, _, by first | rfl | exact World.drewN_drewN ..⟩
    ·have hn' : x < n := by omega
     have d1 : decide (n ≤ x) = false := by simpa using hn
     by_cases hk0 : k = 0
     ·have hp := Lib.hid (show prevAt xs k < x by simp [prevAt, hk0]; omega)
      have d2 : decide (0 < k) = false := by simp [hk0]
      subst hA
      clear hk0
      go_wp2
      go_quiet (fail)
      go_wp2
      go_roundw
      case rel => exact ⟨k + 1, by omega, by go_num, set_on hx HE h0' hn' hp.out, _, by first | rfl | exact World.drewN_drewN ..⟩
      case measure => simp [intOf]; omega
     ·have hk1 : (0 : Int) < (k : Int) := by omega
      have d2 : decide (0 < k) = true := by simp; omega
      obtain ⟨b2, o2, y, hA2, hy, hc2⟩ := ha.at_ (k := k - 1) (by omega)
      subst hA
      obtain ⟨rfl, rfl⟩ : b1 = b2 ∧ o1 = o2 := by simpa using hA2
      clear hA2
      have hp := Lib.hid (prevAt_pos hk0 hy)
      by_cases hyx : x ≤ y
      ·go_wp2
       go_quiet (fail)
       go_wp2
       go_ret
       exact ⟨ret_bool (set_bad hx HE (by rw [hp.out]; exact hyx)).symm, _, by first | rfl | exact World.drewN_drewN ..⟩
      ·have hyx' : y < x := by omega
       go_wp2
       go_quiet (fail)
       go_wp2
       go_roundw
       case rel => exact ⟨k + 1, by omega, by go_num, set_on hx HE h0' hn' (by rw [hp.out]; exact hyx'), _, by first | rfl | exact World.drewN_drewN ..⟩
       case measure => simp [intOf]; omega
  ·go_wp2
   go_ret
   refine ⟨ret_bool ?_, _, rfl⟩
   rw [HE.out, List.drop_of_length_le (by omega), chain]
set_option maxHeartbeats 800000 in
theorem rising_any (A : Option Addr) (c : Nat) (xs : List Int) (n : Int) (w : World) (ha : Rd w (.int .i64) A c xs) :
  Calls Tryz.prog 46 #[.slice A xs.length c, .int .i64 n] w (RetQ w (.bool (isSet n xs))) := by
 have ha1 := ha.bound
 go_enter Tryz.func46, Tryz.ntmps46
 go_wp2
 go_loopw [9] (fun i wr => ∃ k : Nat, k ≤ xs.length ∧ i = .int .i64 k ∧ isSet n xs = chain n (prevAt xs k) (xs.drop k) ∧ ∃ m, wr = w.drewN m) (fun i _ => xs.length - (intOf i).toNat)
 case atStart => exact ⟨0, Nat.zero_le _, rfl, by simp [isSet, prevAt], 0, rfl⟩
 case round =>
  obtain ⟨k, hk, rfl, heq, m, rfl⟩ := hrel
  have HE := Lib.hid heq
  clear heq
  by_cases hlt : k < xs.length
  ·obtain ⟨b1, o1, x, hA, hx, hc1⟩ := ha.at_ hlt
   by_cases h0 : x < 0
   ·subst hA
    go_wp2
    go_ret
    exact ⟨ret_bool (set_low hx HE (.inl h0)).symm, _, by first | rfl | exact World.drewN_drewN ..⟩
   ·have h0' : 0 ≤ x := by omega
    by_cases hn : n ≤ x
    ·subst hA
     go_wp2
     go_ret
     exact ⟨ret_bool (set_low hx HE (.inr hn)).symm, _, by first | rfl | exact World.drewN_drewN ..⟩
    ·have hn' : x < n := by omega
     by_cases hk0 : k = 0
     ·subst hk0
      subst hA
      rw [Nat.add_zero] at hc1
      go_wp2
      go_roundw
      case rel => exact ⟨1, by omega, by go_num, set_on hx HE h0' hn' (by simp [prevAt]; omega), _, by first | rfl | exact World.drewN_drewN ..⟩
      case measure => simp [intOf]; omega
     ·have hk1 : (0 : Int) < (k : Int) := by omega
      obtain ⟨b2, o2, y, hA2, hy, hc2⟩ := ha.at_ (k := k - 1) (by omega)
      subst hA
      obtain ⟨rfl, rfl⟩ : b1 = b2 ∧ o1 = o2 := by simpa using hA2
      clear hA2
      have hp := Lib.hid (prevAt_pos hk0 hy)
      by_cases hyx : x ≤ y
      ·go_wp2
       go_ret
       exact ⟨ret_bool (set_bad hx HE (by rw [hp.out]; exact hyx)).symm, _, by first | rfl | exact World.drewN_drewN ..⟩
      ·have hyx' : y < x := by omega
       go_wp2
       go_roundw
       case rel => exact ⟨k + 1, by omega, by go_num, set_on hx HE h0' hn' (by rw [hp.out]; exact hyx'), _, by first | rfl | exact World.drewN_drewN ..⟩
       case measure => simp [intOf]; omega
  ·go_wp2
   go_ret
   refine ⟨ret_bool ?_, _, rfl⟩
   rw [HE.out, List.drop_of_length_le (by omega), chain]
end

/- The contracts of lists without others: Minus, without. -/
section
open Go.RowKit
theorem elemInts : Elem Tryz.prog 53 3 (.int .i64 0) 1 8 := ⟨Tryz.underlying53, by kernel_rfl, rfl, by omega, by omega⟩
theorem one_i64 (z : Int) : (Value.int .i64 z).oneCell' = true := rfl
def minus (xs ys : List Int) : List Int := xs.filter fun x => decide (x ∉ ys)
theorem minus_hit {xs ys : List Int} {k : Nat} {x : Int} (hx : Hid (xs[k]? = some x)) (h : x ∈ ys) : minus (xs.take (k + 1)) ys = minus (xs.take k) ys := by
 rw [List.take_add_one, hx.out]; simp [minus, h]
theorem minus_miss {xs ys : List Int} {k : Nat} {x : Int} (hx : Hid (xs[k]? = some x)) (h : x ∉ ys) : minus (xs.take (k + 1)) ys = minus (xs.take k) ys ++ [x] := by
 rw [List.take_add_one, hx.out]; simp [minus, h]
theorem minus_le (xs ys : List Int) : (minus xs ys).length ≤ xs.length := List.length_filter_le _ _
set_option maxHeartbeats 800000 in
theorem Minus_any (A B : Option Addr) (ca cb : Nat) (xs ys : List Int) (w : World) (ha : Rd w (.int .i64) A ca xs) (hb : Rd w (.int .i64) B cb ys) (hlen : xs.length ≤ 1000000) :
    Calls Tryz.prog 63 #[.slice A xs.length ca, .slice B ys.length cb] w (RetOwn w 3 ((minus xs ys).map (.int .i64))) := by
  go_enter Tryz.func63, Tryz.ntmps63
  go_wp2
  go_loopw [5, 6] (fun v i wr => ∃ k : Nat, k ≤ xs.length ∧ i = .int .i64 k ∧ Gath w 3 ((minus (xs.take k) ys).map (.int .i64)) v wr) (fun _ i _ => xs.length - (intOf i).toNat)
  case atStart => exact ⟨0, Nat.zero_le _, rfl, Gath.start _ _ (by simp [minus])⟩
  case round =>
    obtain ⟨k, hk, rfl, A1, c1, rfl, hown, hf⟩ := hrel
    have hm := minus_le (xs.take k) ys
    have hm2 : (xs.take k).length ≤ k := by simp; omega
    by_cases hlt : k < xs.length
    · obtain ⟨b1, o1, x, rfl, hx, hc1⟩ := (ha.fr0 hf).at_ hlt
      simp only [List.length_map] at hown
      by_cases hm : x ∈ ys
      · have hd : decide (x ∈ ys) = true := by simpa using hm
        go_wp2_with (go_at_call 41; refine (Has_any _ _ _ _ _ (hb.fr0 hf)).mono ?_; rintro e w' ⟨rfl, n, rfl⟩)
        go_roundw
        case rel => exact ⟨k + 1, by omega, by go_num, Gath.same (hf.drewN n) (own_drewN hown _) (by rw [minus_hit hx hm])⟩
        case measure => simp [intOf]; omega
      · have hd : decide (x ∈ ys) = false := by simpa using hm
        go_wp2_with (first
          | (at_builtin
             refine wpList_append_rd rfl (.tmp 20) (.tmp 25) _ rfl elemInts (.slice A1 (minus (List.take k xs) ys).length c1) _ rfl (own_drewN (hown.alloc _) _) _ _ [x] (.int .i64) rfl ((Rd.one _ _ _ _).drewN _) one_i64 (by simp; omega) (by simp; have := hf.size; omega) ?_
             intro A2 c2 w2 hown2 hg2 hat2)
          | (go_at_call 41; refine (Has_any _ _ _ _ _ (hb.fr0 hf)).mono ?_; rintro e w' ⟨rfl, n, rfl⟩))
        go_roundw
        case rel => exact ⟨k + 1, by omega, by go_num, Gath.snoc ((hf.alloc _).drewN n) (own_drewN (hown.alloc _) _) hg2 hown2 (by rw [minus_miss hx hm]; simp)⟩
        case measure => simp [intOf]; omega
    · go_wp2
      go_ret
      exact Gath.ret hf hown (by rw [List.take_of_length_le (by omega)])
set_option maxHeartbeats 800000 in
theorem without_any (A B : Option Addr) (ca cb : Nat) (xs ys : List Int) (w : World) (ha : Rd w (.int .i64) A ca xs) (hb : Rd w (.int .i64) B cb ys) (hlen : xs.length ≤ 1000000) :
    Calls Tryz.prog 60 #[.slice A xs.length ca, .slice B ys.length cb] w (RetOwn w 3 ((minus xs ys).map (.int .i64))) := by
  go_enter Tryz.func60, Tryz.ntmps60
  go_wp2_with (at_make; refine wpList_make0 rfl _ _ _ rfl elemInts xs.length rfl rfl (by omega) ?_; intro w0 hown0 hg0)
  go_loopw [5, 13] (fun v i wr => ∃ k : Nat, k ≤ xs.length ∧ i = .int .i64 k ∧ Gath w 3 ((minus (xs.take k) ys).map (.int .i64)) v wr) (fun _ i _ => xs.length - (intOf i).toNat)
  case atStart => exact ⟨0, Nat.zero_le _, rfl, Gath.made (Fr.refl _ _) hown0 hg0 (by simp [minus])⟩
  case round =>
    clear hown0 hg0
    obtain ⟨k, hk, rfl, A1, c1, rfl, hown, hf⟩ := hrel
    have hm := minus_le (xs.take k) ys
    have hm2 : (xs.take k).length ≤ k := by simp; omega
    by_cases hlt : k < xs.length
    · obtain ⟨b1, o1, x, rfl, hx, hc1⟩ := (ha.fr0 hf).at_ hlt
      simp only [List.length_map] at hown
      by_cases hm : x ∈ ys
      · have hd : decide (x ∈ ys) = true := by simpa using hm
        go_wp2_with (go_at_call 47; refine (has_any _ _ _ _ _ (hb.fr0 hf)).mono ?_; rintro e w' ⟨rfl, n, rfl⟩)
        go_roundw
        case rel => exact ⟨k + 1, by omega, by go_num, Gath.same (hf.drewN n) (own_drewN hown _) (by rw [minus_hit hx hm])⟩
        case measure => simp [intOf]; omega
      · have hd : decide (x ∈ ys) = false := by simpa using hm
        go_wp2_with (first
          | (at_builtin
             refine wpList_append_rd rfl (.tmp 21) (.tmp 23) _ rfl elemInts (.slice A1 (minus (List.take k xs) ys).length c1) _ rfl (own_drewN (hown.alloc _) _) _ _ [x] (.int .i64) rfl ((Rd.one _ _ _ _).drewN _) one_i64 (by simp; omega) (by simp; have := hf.size; omega) ?_
             intro A2 c2 w2 hown2 hg2 hat2)
          | (go_at_call 47; refine (has_any _ _ _ _ _ (hb.fr0 hf)).mono ?_; rintro e w' ⟨rfl, n, rfl⟩))
        go_roundw
        case rel => exact ⟨k + 1, by omega, by go_num, Gath.snoc ((hf.alloc _).drewN n) (own_drewN (hown.alloc _) _) hg2 hown2 (by rw [minus_miss hx hm]; simp)⟩
        case measure => simp [intOf]; omega
    · go_wp2
      go_ret
      exact Gath.ret hf hown (by rw [List.take_of_length_le (by omega)])

set_option maxHeartbeats 400000 in
theorem fresh_any (A : Option Addr) (ca : Nat) (xs : List Int) (w : World) (ha : Rd w (.int .i64) A ca xs) (hlen : xs.length ≤ 1000000) :
    Calls Tryz.prog 76 #[.slice A xs.length ca] w (RetOwn w 3 (xs.map (.int .i64))) := by
  go_enter Tryz.func76, Tryz.ntmps76
  go_wp2_with (first
    | (at_make; refine wpList_make0 rfl _ _ _ rfl elemInts xs.length rfl rfl (by omega) ?_; intro w0 hown0 hg0)
    | (at_builtin
       refine wpList_append_rd rfl (.tmp 5) (.tmp 6) _ rfl elemInts _ _ rfl hown0 _ _ xs (.int .i64) rfl (ha.fr0 ((Fr.refl _ _).grown hg0 (by simp))) one_i64 (by omega) hg0.size ?_
       intro A2 c2 w2 hown2 hg2 hat2))
  go_ret
  exact Gath.ret (((Fr.refl _ _).grown hg0 (by simp)).app hown0 (Nat.le_refl _) hg2) (by simpa using hown2) rfl

end

/- The reference's search that is repeated: play. -/
section
open Go.RowKit
end

/- What a search returns: the reference's end. -/
section
open Go.RowKit
structure Qst where
 done : Bool
 ask : List Int
 kept : List Int
 pass : List Int
deriving DecidableEq
def QstIs (w : World) (v : Value) (q : Qst) : Prop :=
 ∃ A a B b C c, v = .agg #[.bool q.done, .slice A q.ask.length a, .slice B q.kept.length b, .slice C q.pass.length c] ∧ Rd w (.int .i64) A a q.ask ∧ Rd w (.int .i64) B b q.kept ∧ Rd w (.int .i64) C c q.pass
theorem QstIs.fr0 {w w' : World} {v : Value} {q : Qst} (h : QstIs w v q) (hf : Fr [] w w') : QstIs w' v q := by
 obtain ⟨A, a, B, b, C, c, hv, h1, h2, h3⟩ := h
 exact ⟨A, a, B, b, C, c, hv, h1.fr0 hf, h2.fr0 hf, h3.fr0 hf⟩
def RetQstF (B : Nat) (w : World) (r : Qst × Int) (e : Ending) (w' : World) : Prop :=
 ∃ v, e = .returned (.tuple #[v, .int .i64 r.2]) ∧ Fr [] w w' ∧ ∃ A a B1 b C c, v = .agg #[.bool r.1.done, .slice A r.1.ask.length a, .slice B1 r.1.kept.length b, .slice C r.1.pass.length c] ∧
  (Rd w' (.int .i64) A a r.1.ask ∧ Nw B A) ∧ (Rd w' (.int .i64) B1 b r.1.kept ∧ Nw B B1) ∧ Rd w' (.int .i64) C c r.1.pass ∧ Nw B C
def qNone : Qst := ⟨false, [], [], []⟩
def endOf (stop : Bool) (want : List Int) (e : Int) (left : Bool) (kept pass : List Int) : Qst × Int :=
 if stop then (⟨false, want, [], []⟩, 0) else if e ≠ 0 then (qNone, e) else if left then (qNone, 8) else (⟨true, [], kept, pass⟩, 0)
theorem Blk.four {w : World} {g : Nat} {t : TypeId} {x0 x1 x2 x3 : Value} (h : Blk w g t #[x0, x1, x2, x3]) (a0 a1 a2 a3 : Value) :
  Blk ((((w.setCell ⟨g, 0, none⟩ a0).setCell ⟨g, 1, none⟩ a1).setCell ⟨g, 2, none⟩ a2).setCell ⟨g, 3, none⟩ a3) g t #[a0, a1, a2, a3] :=
 (((h.set_ 0 a0).set_ 1 a1).set_ 2 a2).set_ 3 a3
theorem fr_four {S : List Nat} {w w1 : World} (h : Fr S w w1) {g : Nat} (hg : g ∈ S ∨ w.heap.size ≤ g) (a0 a1 a2 a3 : Value) :
  Fr S w ((((w1.setCell ⟨g, 0, none⟩ a0).setCell ⟨g, 1, none⟩ a1).setCell ⟨g, 2, none⟩ a2).setCell ⟨g, 3, none⟩ a3) :=
 (((h.setCell (p := ⟨g, 0, none⟩) hg _).setCell (p := ⟨g, 1, none⟩) hg _).setCell (p := ⟨g, 2, none⟩) hg _).setCell (p := ⟨g, 3, none⟩) hg _
theorem Rd.four {α : Type} {w : World} {enc : α → Value} {A : Option Addr} {c : Nat} {xs : List α} (h : Rd w enc A c xs) {g : Nat} (hn : 0 < xs.length → ∀ a, A = some a → a.block ≠ g) (a0 a1 a2 a3 : Value) :
  Rd ((((w.setCell ⟨g, 0, none⟩ a0).setCell ⟨g, 1, none⟩ a1).setCell ⟨g, 2, none⟩ a2).setCell ⟨g, 3, none⟩ a3) enc A c xs :=
 (((h.setCell (p := ⟨g, 0, none⟩) hn _).setCell (p := ⟨g, 1, none⟩) hn _).setCell (p := ⟨g, 2, none⟩) hn _).setCell (p := ⟨g, 3, none⟩) hn _
theorem results_qst {fn : Func} {p t : Tmp} (h : fn.results = #[.cell p 91, .tmp t]) (tmps : Array Value) (w : World) (g : Nat) {a0 a1 a2 a3 : Value} (hp : tmps.getD p undef = .pointer (some ⟨g, 0, none⟩)) (hb : Blk w g 91 #[a0, a1, a2, a3]) :
  (results fn tmps).run Tryz.prog w = .ok (.tuple #[.agg #[a0, a1, a2, a3], tmps.getD t undef]) w := by
 have c0 := hb.cell 0 rfl
 have c1 := hb.cell 1 rfl
 have c2 := hb.cell 2 rfl
 have c3 := hb.cell 3 rfl
 simp only [Array.getD_eq_getD_getElem?] at hp
 simp [results, h, go_sem, hp, c0, c1, c2, c3]
theorem Rd.apartQ {w : World} {k : IntKind} {A : Option Addr} {c g : Nat} {t : TypeId} {xs : List Int} {b0 : Bool} {A1 A2 A3 : Option Addr} {n1 n2 n3 m1 m2 m3 : Nat} (h : Rd w (.int k) A c xs)
  (hb : Blk w g t #[.bool b0, .slice A1 n1 m1, .slice A2 n2 m2, .slice A3 n3 m3]) (h0 : 0 < xs.length) (a : Addr) (ha : A = some a) : a.block ≠ g := by
 obtain ⟨b, off, rfl, hc⟩ := h.at0 h0
 injection ha with ha
 subst ha
 rintro rfl
 have h1 := hc 0 xs[0] (by simp)
 have h2 := cell_of_row w b (off + 0) _ t (0, 0) hb
 rw [h2] at h1
 match off, h1 with
 | 0, h1 => simp at h1
 | 1, h1 => simp at h1
 | 2, h1 => simp at h1
 | 3, h1 => simp at h1
 | n + 4, h1 => simp at h1
theorem qstF_ret {B0 : Nat} {w w3 : World} {g : Nat} {r : Qst × Int} {A a B b C c} {b0 : Bool} {A1 A2 A3 : Option Addr} {n1 n2 n3 m1 m2 m3 : Nat} (hg : w.heap.size ≤ g) (hf : Fr [] w w3)
  (hb : Blk w3 g 91 #[.bool b0, .slice A1 n1 m1, .slice A2 n2 m2, .slice A3 n3 m3]) (h1 : Rd w3 (.int .i64) A a r.1.ask ∧ Nw B0 A) (h2 : Rd w3 (.int .i64) B b r.1.kept ∧ Nw B0 B) (h3 : Rd w3 (.int .i64) C c r.1.pass ∧ Nw B0 C) :
  RetQstF B0 w r (.returned (.tuple #[.agg #[.bool r.1.done, .slice A r.1.ask.length a, .slice B r.1.kept.length b, .slice C r.1.pass.length c], .int .i64 r.2]))
   ((((w3.setCell ⟨g, 0, none⟩ (.bool r.1.done)).setCell ⟨g, 1, none⟩ (.slice A r.1.ask.length a)).setCell ⟨g, 2, none⟩ (.slice B r.1.kept.length b)).setCell ⟨g, 3, none⟩ (.slice C r.1.pass.length c)) :=
 ⟨_, rfl, fr_four hf (.inr hg) _ _ _ _, A, a, B, b, C, c, rfl, ⟨h1.1.four (h1.1.apartQ hb) _ _ _ _, h1.2⟩, ⟨h2.1.four (h2.1.apartQ hb) _ _ _ _, h2.2⟩, h3.1.four (h3.1.apartQ hb) _ _ _ _, h3.2⟩
end

/- The reference's verdict on a version. -/
section
open Go.RowKit
end

/- The version between two others that is asked next: the reference's between. -/
section
open Go.RowKit
def Known (kn : Int → Bool) (bs : List Bool) : Prop := ∀ i : Nat, i < bs.length → bs[i]? = some (kn i)
theorem Known.at_ {kn : Int → Bool} {bs : List Bool} {w : World} {A : Option Addr} {c : Nat} (h : Known kn bs) (hr : Rd w .bool A c bs) {i : Int} (h0 : 0 ≤ i) (h1 : i < bs.length) :
  ∃ b off, A = some ⟨b, off, none⟩ ∧ w.cell? ⟨b, off + i.toNat, none⟩ = some (.bool (kn i)) := by
 obtain ⟨b, off, x, hA, hx, hc⟩ := hr.at_ (k := i.toNat) (by omega)
 have := h i.toNat (by omega)
 rw [hx.out] at this
 have hi : ((i.toNat : Nat) : Int) = i := by omega
 rw [hi] at this
 injection this with this
 subst this
 exact ⟨b, off, hA, hc⟩
end

/- quest: what a search of sets returns, put together. -/
section
open Go.RowKit
def questOf (ask kept : List Int) (done : Bool) (e : Int) : Qst × Int :=
 if e ≠ 0 then (qNone, e) else if done = false then (⟨false, ask, [], []⟩, 0) else (⟨true, [], kept, []⟩, 0)
set_option maxHeartbeats 1600000 in
theorem quest_any (A B : Option Addr) (a b : Nat) (ask kept : List Int) (done : Bool) (er : Int) (w : World) (ha : Rd w (.int .i64) A a ask) (hb : Rd w (.int .i64) B b kept) (hl : kept.length ≤ 1000000) (B0 : Nat) (hB0 : B0 ≤ w.heap.size) (hnA : Nw B0 A) :
  Calls Tryz.prog 82 #[.slice A ask.length a, .slice B kept.length b, .bool done, .int .i64 er] w (RetQstF B0 w (questOf ask kept done er)) := by
 have hn : ∀ W : World, Rd W (.int .i64) none 0 ([] : List Int) ∧ Nw B0 none := fun W => ⟨Rd.nil_ W _, Nw.none_ _⟩
 by_cases he : er = 0
 ·subst he
  cases done
  ·go_enter Tryz.func82, Tryz.ntmps82
   go_wp2
   refine bodyPost_ret (v := .tuple #[.agg #[.bool false, .slice A ask.length a, .slice none 0 0, .slice none 0 0], .int .i64 0]) (by simp [results, Tryz.results82, go_sem]) rfl ?_
   rw [show questOf ask kept false 0 = (⟨false, ask, [], []⟩, 0) by simp [questOf]]
   exact ⟨_, rfl, frx, A, a, none, 0, none, 0, rfl, ⟨ha.alloc _, hnA⟩, hn _, hn _⟩
  ·go_enter Tryz.func82, Tryz.ntmps82
   have hB1 := Blk.new w 91 #[.bool false, .slice none 0 0, .slice none 0 0, .slice none 0 0] _ rfl
   go_wp2_with fail
   refine (fresh_any B b kept _ (hb.alloc _) hl).mono ?_
   simp only [RetOwn, List.length_map]
   rintro e w2 ⟨A2, c2, rfl, hf2, hown2⟩
   have hB2 := hB1.fr hf2 (by simp)
   have qc0 := hB2.cell 0 rfl
   have qc1 := hB2.cell 1 rfl
   have qc2 := hB2.cell 2 rfl
   have qc3 := hB2.cell 3 rfl
   have qd0 := hB2.frozen 0
   have qd1 := hB2.frozen 1
   have qd2 := hB2.frozen 2
   have qd3 := hB2.frozen 3
   go_wp2
   refine bodyPost_ret (results_qst rfl _ _ w.heap.size rfl (hB2.four _ _ _ _)) rfl ?_
   rw [show questOf ask kept true 0 = (⟨true, [], kept, []⟩, 0) by simp [questOf]]
   exact qstF_ret (r := (⟨true, [], kept, []⟩, 0)) (Nat.le_refl _) (((Fr.refl _ _).alloc _).trans hf2) hB2 (hn _) ⟨own_rd hown2 rfl rfl, (Nw.own hown2).mono (by simp; omega)⟩ (hn _)
 ·have heb : (er != 0) = true := by simpa using he
  have HE := Lib.hid he
  clear he
  go_enter Tryz.func82, Tryz.ntmps82
  go_wp2
  refine bodyPost_ret (v := .tuple #[.agg #[.bool false, .slice none 0 0, .slice none 0 0, .slice none 0 0], .int .i64 er]) (by simp [results, Tryz.results82, go_sem]) rfl ?_
  rw [show questOf ask kept done er = (qNone, er) by have := HE.out; simp [questOf, this]]
  exact ⟨_, rfl, frx, none, 0, none, 0, none, 0, rfl, hn _, hn _, hn _⟩
end

/- Are two quests equal? -/
section
open Go.RowKit
end

/- The frame of the reference's searches: blocks that were there before, and blocks of other types than the play's own, stay. -/
section
open Go.RowKit
def IntTy (w : World) (k : Nat) : Prop := ∃ cs fz, w.heap[k]? = some (.cells cs 3 fz)
section
variable {B : Nat} {a b c w w' : World} {S : List Nat}
def Stay (B : Nat) (w : World) (A : Option Addr) : Prop := ∀ x, A = some x → x.block < B ∨ IntTy w x.block
theorem Stay.none_ (B : Nat) (w : World) : Stay B w none := fun x hx => by cases hx
theorem Stay.own {n m cc base size : Nat} {A : Option Addr} {xs : List Value} (h : w.ownsRow base 3 size (.slice A n cc) m xs) : Stay B w A := fun x hx => by
 subst hx
 rcases h.2 with ⟨he, _⟩ | ⟨g, cap, cur, he, _, hh, _⟩
 ·cases he
 ·injection he with e1
  injection e1 with e1
  subst e1
  exact .inr ⟨_, _, hh⟩
end
end

/- lowest of the program, choice of the reference. -/
section
open Go.RowKit
theorem low_take_mem {L : List Int} {ks : List Int} (h : ks ≠ []) (k : Nat) : (ks.take k).foldl (lowStep L) (ks.headD 0) ∈ ks := by
 have hd : ks.headD 0 ∈ ks := by cases ks with
  | nil => exact absurd rfl h
  | cons a l => simp
 rcases (low_fold L (ks.take k) (ks.headD 0)).1 with h1 | h1
 ·rw [h1]; exact hd
 ·exact List.mem_of_mem_take h1
set_option maxRecDepth 20000 in
set_option maxHeartbeats 800000 in
theorem lowest_any (A B : Option Addr) (ca cb : Nat) (L ks : List Int) (w : World) (ha : Rd w (.int .i64) A ca L) (hb : Rd w (.int .i64) B cb ks) (h0 : ks ≠ []) (hk : ∀ k ∈ ks, 0 ≤ k ∧ k < L.length) :
  Calls Tryz.prog 71 #[.slice A L.length ca, .slice B ks.length cb] w (RetQ w (.int .i64 (lowestL L ks))) := by
 have hL1 := ha.bound
 have hk1 := hb.bound
 have hpos : 0 < ks.length := List.length_pos_iff.2 h0
 have HK := Lib.hid hk
 have H0 := Lib.hid h0
 clear hk h0
 obtain ⟨b2, o2, y, rfl, hy, hc2⟩ := hb.at_ hpos
 have hc2 : w.cell? ⟨b2, o2, none⟩ = some (.int .i64 y) := by simpa using hc2
 have hy0 : Hid (ks.headD 0 = y) := by
  have := hy.out
  show _ = _
  cases ks with
  | nil => simp at hpos
  | cons a l => simpa using this
 go_enter Tryz.func71, Tryz.ntmps71
 go_wp2
 go_loopw [5, 13] (fun s i wr => ∃ k : Nat, k ≤ ks.length ∧ i = .int .i64 k ∧ s = .int .i64 ((ks.take k).foldl (lowStep L) (ks.headD 0)) ∧ ∃ n, wr = w.drewN n) (fun _ i _ => ks.length - (intOf i).toNat)
 case atStart => exact ⟨0, Nat.zero_le _, rfl, by rw [hy0.out]; rfl, 0, rfl⟩
 case round =>
  clear hc2 hy0 hy
  obtain ⟨k, hk, rfl, rfl, n, rfl⟩ := hrel
  have hm := Lib.hid (low_take_mem (L := L) H0.out k)
  have hmr := HK.out _ hm.out
  by_cases hlt : k < ks.length
  ·obtain ⟨b1, o1, x, hA1, hx, hc1⟩ := hb.at_ hlt
   injection hA1 with hA1
   injection hA1 with e1 e2
   subst e1 e2
   have hxr := HK.out _ (List.mem_of_getElem? hx.out)
   have HF := Lib.hid (fold_take (f := lowStep L) (b := ks.headD 0) hx)
   generalize (ks.take k).foldl (lowStep L) (ks.headD 0) = best at *
   obtain ⟨xn, rfl⟩ : ∃ xn : Nat, x = xn := ⟨x.toNat, by omega⟩
   obtain ⟨bn, rfl⟩ : ∃ bn : Nat, best = bn := ⟨best.toNat, by omega⟩
   obtain ⟨b3, o3, u, rfl, hu, hc3⟩ := ha.at_ (k := xn) (by omega)
   obtain ⟨b4, o4, z, hA4, hz, hc4⟩ := ha.at_ (k := bn) (by omega)
   injection hA4 with hA4
   injection hA4 with e1 e2
   subst e1 e2
   have hst : Hid (lowStep L bn xn = if u < z then (xn : Int) else bn) := by show _ = _; unfold lowStep; rw [getI_at hu.out, getI_at hz.out]
   by_cases hlu : u < z
   ·have hd : decide (u < z) = true := by simp [hlu]
    go_wp2
    go_quiet (fail)
    go_wp2
    go_roundw
    case rel => exact ⟨k + 1, by omega, by go_num, by rw [HF.out, hst.out, if_pos hlu], _, by first | rfl | exact World.drewN_drewN ..⟩
    case measure => simp [intOf]; omega
   ·have hd : decide (u < z) = false := by simp [hlu]
    go_wp2
    go_quiet (fail)
    go_wp2
    go_roundw
    case rel => exact ⟨k + 1, by omega, by go_num, by rw [HF.out, hst.out, if_neg (by omega)], _, by first | rfl | exact World.drewN_drewN ..⟩
    case measure => simp [intOf]; omega
  ·rw [List.take_of_length_le (by omega)] at *
   go_wp2
   go_ret
   exact ⟨rfl, n, rfl⟩
theorem lowestn_any (n : Nat) (A B : Option Addr) (ca cb : Nat) (L ks : List Int) (w : World) (hn : L.length = n) (ha : Rd w (.int .i64) A ca L) (hb : Rd w (.int .i64) B cb ks) (h0 : ks ≠ []) (hk : ∀ k ∈ ks, 0 ≤ k ∧ k < n) :
  Calls Tryz.prog 71 #[.slice A n ca, .slice B ks.length cb] w (RetQ w (.int .i64 (lowestL L ks))) := by
 subst hn
 exact lowest_any A B ca cb L ks w ha hb h0 hk
end

/- Nodes of a tree: the reference's and the program's. -/
section
open Go.RowKit
abbrev nst (n : Nat) (x : T) : Nat := n + x.nodes
abbrev tcells (t : T) (A : Option Addr) (c : Nat) : Array Value := #[.int .i64 t.kind, .string t.text, .slice A t.slots.length c]
set_option maxRecDepth 20000 in
set_option maxHeartbeats 800000 in
theorem refNodes_any (n : Nat) : ∀ (t : T) (v : Value) (S : Nat → Prop) (w : World), RT S n w v t → t.nodes ≤ 9223372036854775807 →
    Calls Tryz.prog 7 #[v] w (RetV w (.int .i64 (t.nodes : Nat))) := by
  induction n with
  | zero => intro t v S w h; obtain ⟨_, _, _, h⟩ := h; exact absurd h id
  | succ n ih =>
    intro t v S w h hb
    obtain ⟨A, c, rfl, hR⟩ := h
    have hR : RowsB S (fun A c x => RH S n w A c x) w A c t.slots := hR
    have hl1 := hR.bound
    have hT := Lib.hid (T.nodes_eq t)
    go_enter Tryz.func7, Tryz.ntmps7
    go_wp2
    go_loopw [3, 4] (fun s i wr => ∃ k : Nat, k ≤ t.slots.length ∧ i = .int .i64 k ∧ s = .int .i64 (fold2 nst 1 (t.slots.take k) : Nat) ∧ Blk wr w.heap.size 27 (tcells t A c) ∧ Fr [] w wr) (fun _ i _ => t.slots.length - (intOf i).toNat)
    case atStart => exact ⟨0, Nat.zero_le _, rfl, rfl, Blk.new _ _ _ _ rfl, Fr.alloc (Fr.refl _ _) _⟩
    case round =>
      obtain ⟨k, hk, rfl, rfl, hB, hf⟩ := hrel
      have q2 := hB.cell 2 rfl
      have hs0 := nodes_upto t k
      by_cases hlt : k < t.slots.length
      · obtain ⟨b, off, r, A', c', rfl, hr, hc, hRow, hlr⟩ := hR.at_ hlt
        have hc := hf.cell hc (by simp)
        have HS := Lib.hid (fold2_take (f := nst) (b := 1) hr)
        have hin : Hid (∀ m, (r.take m).foldl nst (fold2 nst 1 (t.slots.take k)) ≤ t.nodes) := fun m => nodes_in hr m
        generalize fold2 nst 1 (t.slots.take k) = s0 at *
        go_wp2
        go_loopw [3, 5] (fun s j wr => ∃ m : Nat, m ≤ r.length ∧ j = .int .i64 m ∧ s = .int .i64 ((r.take m).foldl nst s0 : Nat) ∧ Blk wr w.heap.size 27 (tcells t (some ⟨b, off, none⟩) c) ∧ Fr [] w wr) (fun _ j _ => r.length - (intOf j).toNat)
        case atStart => exact ⟨0, Nat.zero_le _, rfl, rfl, hB, hf⟩
        case round =>
          clear q2 hc hB hf
          obtain ⟨m, hm, rfl, rfl, hB, hf⟩ := hrel
          have q2 := hB.cell 2 rfl
          have hc := hf.cell (‹w.cell? ⟨b, off + k, none⟩ = _›) (by simp)
          have hb1 := hin.out m
          by_cases hlt2 : m < r.length
          · obtain ⟨b1, off1, x, A2, c2, rfl, hx, e0, e1, e2, hX⟩ := hRow.at_ hlt2
            have e0 := hf.cell e0 (by simp)
            have e1 := hf.cell e1 (by simp)
            have e2 := hf.cell e2 (by simp)
            have HM := Lib.hid (fold_take (f := nst) (b := s0) hx)
            have hb2 : (r.take m).foldl nst s0 + x.nodes ≤ t.nodes := by
              have := hin.out (m + 1)
              rw [HM.out] at this
              exact this
            have hxn := T.nodes_pos x
            generalize (r.take m).foldl nst s0 = s1 at *
            go_wp2_with fail
            refine (ih x _ S _ ⟨A2, c2, rfl, hX.fr0 hf⟩ (by omega)).mono ?_
            rintro e w3 ⟨rfl, hf3⟩
            go_wp2
            go_roundw
            case rel => exact ⟨m + 1, by omega, by go_num, by rw [HM.out]; go_num, hB.fr hf3 (by simp), hf.trans hf3⟩
            case measure => simp [intOf]; omega
          · rw [List.take_of_length_le (by omega)]
            rw [← HS.out] at *
            go_wp2
            go_roundw
            case rel => exact ⟨k + 1, by omega, by go_num, rfl, hB, hf⟩
            case measure => simp [intOf]; omega
      · rw [List.take_of_length_le (by omega)]
        rw [← hT.out]
        go_wp2
        go_ret
        exact ⟨rfl, hf⟩

set_option maxRecDepth 20000 in
set_option maxHeartbeats 800000 in
theorem Nodes_any (n : Nat) : ∀ (t : T) (v : Value) (S : Nat → Prop) (w : World), RT S n w v t → t.nodes ≤ 9223372036854775807 →
    Calls Tryz.prog 23 #[v] w (RetV w (.int .i64 (t.nodes : Nat))) := by
  induction n with
  | zero => intro t v S w h; obtain ⟨_, _, _, h⟩ := h; exact absurd h id
  | succ n ih =>
    intro t v S w h hb
    obtain ⟨A, c, rfl, hR⟩ := h
    have hR : RowsB S (fun A c x => RH S n w A c x) w A c t.slots := hR
    have hl1 := hR.bound
    have hT := Lib.hid (T.nodes_eq t)
    go_enter Tryz.func23, Tryz.ntmps23
    go_wp2
    go_loopw [3, 11] (fun s i wr => ∃ k : Nat, k ≤ t.slots.length ∧ i = .int .i64 k ∧ s = .int .i64 (fold2 nst 1 (t.slots.take k) : Nat) ∧ Blk wr w.heap.size 27 (tcells t A c) ∧ Fr [] w wr) (fun _ i _ => t.slots.length - (intOf i).toNat)
    case atStart => exact ⟨0, Nat.zero_le _, rfl, rfl, Blk.new _ _ _ _ rfl, Fr.alloc (Fr.refl _ _) _⟩
    case round =>
      obtain ⟨k, hk, rfl, rfl, hB, hf⟩ := hrel
      have q2 := hB.cell 2 rfl
      have hs0 := nodes_upto t k
      by_cases hlt : k < t.slots.length
      · obtain ⟨b, off, r, A', c', rfl, hr, hc, hRow, hlr⟩ := hR.at_ hlt
        have hc := hf.cell hc (by simp)
        have HS := Lib.hid (fold2_take (f := nst) (b := 1) hr)
        have hin : Hid (∀ m, (r.take m).foldl nst (fold2 nst 1 (t.slots.take k)) ≤ t.nodes) := fun m => nodes_in hr m
        generalize fold2 nst 1 (t.slots.take k) = s0 at *
        go_wp2
        go_loopw [3, 17] (fun s j wr => ∃ m : Nat, m ≤ r.length ∧ j = .int .i64 m ∧ s = .int .i64 ((r.take m).foldl nst s0 : Nat) ∧ Blk wr w.heap.size 27 (tcells t (some ⟨b, off, none⟩) c) ∧ Fr [] w wr) (fun _ j _ => r.length - (intOf j).toNat)
        case atStart => exact ⟨0, Nat.zero_le _, rfl, rfl, hB, hf⟩
        case round =>
          clear q2 hc hB hf
          obtain ⟨m, hm, rfl, rfl, hB, hf⟩ := hrel
          have q2 := hB.cell 2 rfl
          have hc := hf.cell (‹w.cell? ⟨b, off + k, none⟩ = _›) (by simp)
          have hb1 := hin.out m
          by_cases hlt2 : m < r.length
          · obtain ⟨b1, off1, x, A2, c2, rfl, hx, e0, e1, e2, hX⟩ := hRow.at_ hlt2
            have e0 := hf.cell e0 (by simp)
            have e1 := hf.cell e1 (by simp)
            have e2 := hf.cell e2 (by simp)
            have HM := Lib.hid (fold_take (f := nst) (b := s0) hx)
            have hb2 : (r.take m).foldl nst s0 + x.nodes ≤ t.nodes := by
              have := hin.out (m + 1)
              rw [HM.out] at this
              exact this
            have hxn := T.nodes_pos x
            generalize (r.take m).foldl nst s0 = s1 at *
            go_wp2_with fail
            refine (ih x _ S _ ⟨A2, c2, rfl, hX.fr0 frx⟩ (by omega)).mono ?_
            rintro e w3 ⟨rfl, hf3⟩
            go_wp2
            go_roundw
            case rel => exact ⟨m + 1, by omega, by go_num, by rw [HM.out]; go_num, (hB.alloc _).fr hf3 (by simp), Fr.trans frx hf3⟩
            case measure => simp [intOf]; omega
          · rw [List.take_of_length_le (by omega)]
            rw [← HS.out] at *
            go_wp2
            go_roundw
            case rel => exact ⟨k + 1, by omega, by go_num, rfl, hB, hf⟩
            case measure => simp [intOf]; omega
      · rw [List.take_of_length_le (by omega)]
        rw [← hT.out]
        go_wp2
        go_ret
        exact ⟨rfl, hf⟩
end

/- deep: what is left of a number of nodes behind a tree. -/
section
open Go.RowKit
def deepS (l : Int) (d : Int → Int) : Int := if l < 0 then l else d l
def deepT : T → Int → Int := T.para fun t rows left => if 40 < t.text.size ∨ 12 < t.slots.length then -1 else fold2 deepS (left - 1) rows
abbrev deepX (l : Int) (x : T) : Int := deepS l (deepT x)
theorem deepT_eq (t : T) (left : Int) : deepT t left = if 40 < t.text.size ∨ 12 < t.slots.length then -1 else fold2 deepX (left - 1) t.slots := by
 conv => lhs; unfold deepT
 rw [T.para_eq]
 split
 ·rfl
 ·rw [fold2_map]; rfl
theorem deepS_rng {P : T → Prop} (hP : ∀ x, P x → ∀ left : Int, 0 ≤ left → left ≤ 30 → -1 ≤ deepT x left ∧ deepT x left ≤ left) {l : Int} {x : T} (hx : P x) (h1 : -1 ≤ l) (h2 : l ≤ 30) : -1 ≤ deepX l x ∧ deepX l x ≤ l := by
 unfold deepX deepS
 split
 ·omega
 ·exact hP x hx l (by omega) h2
theorem deep_row {P : T → Prop} (hP : ∀ x, P x → ∀ left : Int, 0 ≤ left → left ≤ 30 → -1 ≤ deepT x left ∧ deepT x left ≤ left) : ∀ (r : List T) (l : Int), (∀ x ∈ r, P x) → -1 ≤ l → l ≤ 30 → -1 ≤ r.foldl deepX l ∧ r.foldl deepX l ≤ l
  | [], l, _, h1, _ => ⟨h1, Int.le_refl _⟩
  | x :: r, l, hx, h1, h2 => by
    have h3 := deepS_rng hP (hx x (by simp)) h1 h2
    have h4 := deep_row hP r (deepX l x) (fun y hy => hx y (by simp [hy])) h3.1 (by omega)
    rw [List.foldl_cons]
    omega
theorem deep_rows {P : T → Prop} (hP : ∀ x, P x → ∀ left : Int, 0 ≤ left → left ≤ 30 → -1 ≤ deepT x left ∧ deepT x left ≤ left) : ∀ (L : List (List T)) (l : Int), (∀ r ∈ L, ∀ x ∈ r, P x) → -1 ≤ l → l ≤ 30 → -1 ≤ fold2 deepX l L ∧ fold2 deepX l L ≤ l
  | [], l, _, h1, _ => ⟨h1, Int.le_refl _⟩
  | r :: L, l, hx, h1, h2 => by
    have h3 := deep_row hP r l (hx r (by simp)) h1 h2
    have h4 := deep_rows hP L _ (fun s hs => hx s (by simp [hs])) h3.1 (by omega)
    show -1 ≤ fold2 deepX (r.foldl deepX l) L ∧ fold2 deepX (r.foldl deepX l) L ≤ l
    omega
theorem deepT_rng (t : T) : ∀ left : Int, 0 ≤ left → left ≤ 30 → -1 ≤ deepT t left ∧ deepT t left ≤ left := by
  induction t using T.ind with
  | h t ih =>
    intro left h1 h2
    rw [deepT_eq]
    split
    · omega
    · have := deep_rows (P := fun x => ∃ r ∈ t.slots, x ∈ r) (fun x ⟨r, hr, hx⟩ => ih r hr x hx) t.slots (left - 1) (fun r hr x hx => ⟨r, hr, hx⟩) (by omega) (by omega)
      omega
theorem deep_all (x : T) (_ : True) : ∀ left : Int, 0 ≤ left → left ≤ 30 → -1 ≤ deepT x left ∧ deepT x left ≤ left := deepT_rng x
theorem deep_in (r : List T) (L : List (List T)) (i k : Nat) (left : Int) (h1 : 0 ≤ left) (h2 : left ≤ 30) : -1 ≤ (r.take k).foldl deepX (fold2 deepX (left - 1) (L.take i)) ∧ (r.take k).foldl deepX (fold2 deepX (left - 1) (L.take i)) ≤ 30 := by
 have h3 := deep_rows deep_all (L.take i) (left - 1) (fun _ _ _ _ => trivial) (by omega) (by omega)
 have h4 := deep_row deep_all (r.take k) _ (fun _ _ => trivial) h3.1 (by omega)
 omega
theorem deep_stop_row : ∀ (r : List T) (l : Int), l < 0 → r.foldl deepX l = l
  | [], _, _ => rfl
  | x :: r, l, h => by
    rw [List.foldl_cons, show deepX l x = l by simp [deepX, deepS, h]]
    exact deep_stop_row r l h
theorem deep_stop : ∀ (L : List (List T)) (l : Int), l < 0 → fold2 deepX l L = l
  | [], _, _ => rfl
  | r :: L, l, h => by
    show fold2 deepX (r.foldl deepX l) L = l
    rw [deep_stop_row r l h]
    exact deep_stop L l h
theorem deep_cut {L : List (List T)} {i k : Nat} {r : List T} {b : Int} (hr : Hid (L[i]? = some r)) (h : (r.take k).foldl deepX (fold2 deepX b (L.take i)) < 0) : fold2 deepX b L = (r.take k).foldl deepX (fold2 deepX b (L.take i)) := by
 have h1 : r.foldl deepX (fold2 deepX b (L.take i)) = (r.take k).foldl deepX (fold2 deepX b (L.take i)) := by
  conv => lhs; rw [← List.take_append_drop k r, List.foldl_append]
  exact deep_stop_row _ _ h
 conv => lhs; rw [← List.take_append_drop (i + 1) L]
 unfold fold2
 rw [List.foldl_append]
 show fold2 deepX (fold2 deepX b (L.take (i + 1))) (L.drop (i + 1)) = _
 rw [fold2_take hr, h1]
 exact deep_stop _ _ h
theorem deep_nodes (t : T) : ∀ left : Int, 0 ≤ deepT t left → t.nodes + deepT t left = left := by
  induction t using T.ind with
  | h t ih =>
    intro left h
    rw [deepT_eq] at h ⊢
    split at h
    · omega
    · rename_i hn
      rw [if_neg hn, T.nodes_eq]
      have hrow : ∀ (r : List T), (∀ x ∈ r, ∀ left : Int, 0 ≤ deepT x left → x.nodes + deepT x left = left) → ∀ (l : Int) (a : Nat), 0 ≤ r.foldl deepX l → ((r.foldl nst a : Nat) : Int) + r.foldl deepX l = a + l := by
        intro r
        induction r with
        | nil => intro _ l a _; rfl
        | cons x r ihr =>
          intro hx l a h0
          rw [List.foldl_cons, List.foldl_cons] at *
          have h1 := ihr (fun y hy => hx y (by simp [hy])) (deepX l x) (nst a x) h0
          have hl : ¬ deepX l x < 0 := fun hlt => by rw [deep_stop_row _ _ hlt] at h0; omega
          have hl2 : ¬ l < 0 := fun hlt => hl (by simp [deepX, deepS, hlt])
          have hl3 : deepX l x = deepT x l := by simp [deepX, deepS, hl2]
          have h2 := hx x (by simp) l (by omega)
          simp only [nst] at h1 ⊢
          omega
      have hrows : ∀ (L : List (List T)), (∀ r ∈ L, ∀ x ∈ r, ∀ left : Int, 0 ≤ deepT x left → x.nodes + deepT x left = left) → ∀ (l : Int) (a : Nat), 0 ≤ fold2 deepX l L → ((fold2 nst a L : Nat) : Int) + fold2 deepX l L = a + l := by
        intro L
        induction L with
        | nil => intro _ l a _; rfl
        | cons r L ihL =>
          intro hx l a h0
          have h0 : 0 ≤ fold2 deepX (r.foldl deepX l) L := h0
          have h1 := ihL (fun s hs => hx s (by simp [hs])) (r.foldl deepX l) (r.foldl nst a) h0
          have hl : ¬ r.foldl deepX l < 0 := fun hlt => by rw [deep_stop _ _ hlt] at h0; omega
          have h2 := hrow r (hx r (by simp)) l a (by omega)
          show ((fold2 nst (r.foldl nst a) L : Nat) : Int) + fold2 deepX (r.foldl deepX l) L = a + l
          omega
      have h9 := hrows t.slots ih (left - 1) 1 h
      show ((fold2 nst 1 t.slots : Nat) : Int) + fold2 deepX (left - 1) t.slots = left
      omega

set_option maxRecDepth 20000 in
set_option maxHeartbeats 1600000 in
theorem deep_any (n : Nat) : ∀ (t : T) (v : Value) (S : Nat → Prop) (w : World) (left : Int), RT S n w v t → 0 ≤ left → left ≤ 30 →
    Calls Tryz.prog 13 #[v, .int .i64 left] w (RetV w (.int .i64 (deepT t left))) := by
  induction n with
  | zero => intro t v S w left h; obtain ⟨_, _, _, h⟩ := h; exact absurd h id
  | succ n ih =>
    intro t v S w left h h0 h30
    obtain ⟨A, c, rfl, hR⟩ := h
    have hR : RowsB S (fun A c x => RH S n w A c x) w A c t.slots := hR
    have hl1 := hR.bound
    have hT := Lib.hid (deepT_eq t left)
    by_cases ht : 40 < t.text.size
    · have hd : decide (40 < (t.text.size : Int)) = true := by simp; omega
      have hE : Hid (deepT t left = -1) := by show _ = _; rw [hT.out, if_pos (.inl ht)]
      go_enter Tryz.func13, Tryz.ntmps13
      go_wp2
      go_ret
      rw [hE.out]
      exact ⟨rfl, Fr.alloc (Fr.refl _ _) _⟩
    have hd1 : decide (40 < (t.text.size : Int)) = false := by simp; omega
    by_cases hs : 12 < t.slots.length
    · have hd : decide (12 < (t.slots.length : Int)) = true := by simp; omega
      have hE : Hid (deepT t left = -1) := by show _ = _; rw [hT.out, if_pos (.inr hs)]
      go_enter Tryz.func13, Tryz.ntmps13
      go_wp2
      go_ret
      rw [hE.out]
      exact ⟨rfl, Fr.alloc (Fr.refl _ _) _⟩
    have hd2 : decide (12 < (t.slots.length : Int)) = false := by simp; omega
    have hE : Hid (deepT t left = fold2 deepX (left - 1) t.slots) := by show _ = _; rw [hT.out, if_neg (by omega)]
    clear hT
    go_enter Tryz.func13, Tryz.ntmps13
    go_wp2
    go_loopw [1, 5] (fun s i wr => ∃ k : Nat, k ≤ t.slots.length ∧ i = .int .i64 k ∧ s = .int .i64 (fold2 deepX (left - 1) (t.slots.take k)) ∧ Blk wr w.heap.size 27 (tcells t A c) ∧ Fr [] w wr) (fun _ i _ => t.slots.length - (intOf i).toNat)
    case atStart => exact ⟨0, Nat.zero_le _, rfl, by go_num, Blk.new _ _ _ _ rfl, Fr.alloc (Fr.refl _ _) _⟩
    case round =>
      obtain ⟨k, hk, rfl, rfl, hB, hf⟩ := hrel
      have q2 := hB.cell 2 rfl
      by_cases hlt : k < t.slots.length
      · obtain ⟨b, off, r, A', c', rfl, hr, hc, hRow, hlr⟩ := hR.at_ hlt
        have hc := hf.cell hc (by simp)
        have HS := Lib.hid (fold2_take (f := deepX) (b := left - 1) hr)
        have hin : Hid (∀ m, -1 ≤ (r.take m).foldl deepX (fold2 deepX (left - 1) (t.slots.take k)) ∧ (r.take m).foldl deepX (fold2 deepX (left - 1) (t.slots.take k)) ≤ 30) := fun m => deep_in r t.slots k m left h0 h30
        have hcut : Hid (∀ m, (r.take m).foldl deepX (fold2 deepX (left - 1) (t.slots.take k)) < 0 → fold2 deepX (left - 1) t.slots = (r.take m).foldl deepX (fold2 deepX (left - 1) (t.slots.take k))) := fun m => deep_cut hr
        generalize fold2 deepX (left - 1) (t.slots.take k) = s0 at *
        go_wp2
        go_loopw [1, 6] (fun s j wr => ∃ m : Nat, m ≤ r.length ∧ j = .int .i64 m ∧ s = .int .i64 ((r.take m).foldl deepX s0) ∧ Blk wr w.heap.size 27 (tcells t (some ⟨b, off, none⟩) c) ∧ Fr [] w wr) (fun _ j _ => r.length - (intOf j).toNat)
        case atStart => exact ⟨0, Nat.zero_le _, rfl, rfl, hB, hf⟩
        case round =>
          clear q2 hc hB hf
          obtain ⟨m, hm, rfl, rfl, hB, hf⟩ := hrel
          have q2 := hB.cell 2 rfl
          have hc := hf.cell (‹w.cell? ⟨b, off + k, none⟩ = _›) (by simp)
          obtain ⟨hb1, hb2⟩ := hin.out m
          by_cases hlt2 : m < r.length
          · obtain ⟨b1, off1, x, A2, c2, rfl, hx, e0, e1, e2, hX⟩ := hRow.at_ hlt2
            have e0 := hf.cell e0 (by simp)
            have e1 := hf.cell e1 (by simp)
            have e2 := hf.cell e2 (by simp)
            have HM := Lib.hid (fold_take (f := deepX) (b := s0) hx)
            have hcm := Lib.hid (hcut.out m)
            generalize (r.take m).foldl deepX s0 = s1 at *
            by_cases hneg : s1 < 0
            · have hd : decide (s1 < 0) = true := by simp [hneg]
              have hE2 := Lib.hid (hcm.out hneg)
              go_wp2
              go_ret
              rw [hE.out, hE2.out]
              exact ⟨rfl, hf⟩
            · have hd : decide (s1 < 0) = false := by simp [hneg]
              have hX1 : Hid (deepX s1 x = deepT x s1) := by show _ = _; simp [deepX, deepS, hneg]
              go_wp2_with fail
              refine (ih x _ S _ s1 ⟨A2, c2, rfl, hX.fr0 hf⟩ (by omega) (by omega)).mono ?_
              rintro e w3 ⟨rfl, hf3⟩
              go_wp2
              go_roundw
              case rel => exact ⟨m + 1, by omega, by go_num, by rw [HM.out, hX1.out], hB.fr hf3 (by simp), hf.trans hf3⟩
              case measure => simp [intOf]; omega
          · rw [List.take_of_length_le (by omega)]
            rw [← HS.out] at *
            go_wp2
            go_roundw
            case rel => exact ⟨k + 1, by omega, by go_num, rfl, hB, hf⟩
            case measure => simp [intOf]; omega
      · rw [List.take_of_length_le (by omega)]
        rw [← hE.out]
        go_wp2
        go_ret
        exact ⟨rfl, hf⟩
end

/- depth of a tree: the reference's and the program's. -/
section
open Go.RowKit
abbrev dst (n : Nat) (x : T) : Nat := max n x.depth
theorem int_max (a b : Nat) : Value.int .i64 (if a < b then (b : Int) else a) = .int .i64 ((max a b : Nat) : Int) := by
 congr 1
 split <;> omega
theorem depth_upto (t : T) (i : Nat) : fold2 dst 0 (t.slots.take i) < t.depth := by
 have := T.depth_eq t
 have h2 := fold2_take_le (m := id) (f := dst) (fun b x => Nat.le_max_left _ _) t.slots 0 i
 simp only [id] at h2
 have h3 : t.depth = fold2 dst 0 t.slots + 1 := this
 omega
theorem depth_in {t : T} {i : Nat} {r : List T} (h : Hid (t.slots[i]? = some r)) (k : Nat) : (r.take k).foldl dst (fold2 dst 0 (t.slots.take i)) < t.depth := by
 have h2 := fold2_in_le (m := id) (f := dst) (fun b x => Nat.le_max_left _ _) h 0 k
 have h3 : t.depth = fold2 dst 0 t.slots + 1 := T.depth_eq t
 simp only [id] at h2
 omega
set_option maxRecDepth 20000 in
set_option maxHeartbeats 800000 in
theorem refDepth_any (n : Nat) : ∀ (t : T) (v : Value) (S : Nat → Prop) (w : World), RT S n w v t → t.depth ≤ 1000000 →
    Calls Tryz.prog 15 #[v] w (RetV w (.int .i64 (t.depth : Nat))) := by
  induction n with
  | zero => intro t v S w h; obtain ⟨_, _, _, h⟩ := h; exact absurd h id
  | succ n ih =>
    intro t v S w h hb
    obtain ⟨A, c, rfl, hR⟩ := h
    have hR : RowsB S (fun A c x => RH S n w A c x) w A c t.slots := hR
    have hl1 := hR.bound
    have hT := Lib.hid (T.depth_eq t)
    go_enter Tryz.func15, Tryz.ntmps15
    go_wp2
    go_loopw [3, 4] (fun s i wr => ∃ k : Nat, k ≤ t.slots.length ∧ i = .int .i64 k ∧ s = .int .i64 (fold2 dst 0 (t.slots.take k) : Nat) ∧ Blk wr w.heap.size 27 (tcells t A c) ∧ Fr [] w wr) (fun _ i _ => t.slots.length - (intOf i).toNat)
    case atStart => exact ⟨0, Nat.zero_le _, rfl, rfl, Blk.new _ _ _ _ rfl, Fr.alloc (Fr.refl _ _) _⟩
    case round =>
      obtain ⟨k, hk, rfl, rfl, hB, hf⟩ := hrel
      have q2 := hB.cell 2 rfl
      have hs0 := depth_upto t k
      by_cases hlt : k < t.slots.length
      · obtain ⟨b, off, r, A', c', rfl, hr, hc, hRow, hlr⟩ := hR.at_ hlt
        have hc := hf.cell hc (by simp)
        have HS := Lib.hid (fold2_take (f := dst) (b := 0) hr)
        have hin : Hid (∀ m, (r.take m).foldl dst (fold2 dst 0 (t.slots.take k)) < t.depth) := fun m => depth_in hr m
        generalize fold2 dst 0 (t.slots.take k) = s0 at *
        go_wp2
        go_loopw [3, 5] (fun s j wr => ∃ m : Nat, m ≤ r.length ∧ j = .int .i64 m ∧ s = .int .i64 ((r.take m).foldl dst s0 : Nat) ∧ Blk wr w.heap.size 27 (tcells t (some ⟨b, off, none⟩) c) ∧ Fr [] w wr) (fun _ j _ => r.length - (intOf j).toNat)
        case atStart => exact ⟨0, Nat.zero_le _, rfl, rfl, hB, hf⟩
        case round =>
          clear q2 hc hB hf
          obtain ⟨m, hm, rfl, rfl, hB, hf⟩ := hrel
          have q2 := hB.cell 2 rfl
          have hc := hf.cell (‹w.cell? ⟨b, off + k, none⟩ = _›) (by simp)
          have hb1 := hin.out m
          by_cases hlt2 : m < r.length
          · obtain ⟨b1, off1, x, A2, c2, rfl, hx, e0, e1, e2, hX⟩ := hRow.at_ hlt2
            have e0 := hf.cell e0 (by simp)
            have e1 := hf.cell e1 (by simp)
            have e2 := hf.cell e2 (by simp)
            have HM := Lib.hid (fold_take (f := dst) (b := s0) hx)
            have hb2 : max ((r.take m).foldl dst s0) x.depth < t.depth := by
              have := hin.out (m + 1)
              rw [HM.out] at this
              exact this
            generalize (r.take m).foldl dst s0 = s1 at *
            go_wp2_with fail
            refine (ih x _ S _ ⟨A2, c2, rfl, hX.fr0 hf⟩ (by omega)).mono ?_
            rintro e w3 ⟨rfl, hf3⟩
            go_wp2
            go_roundw
            case rel => exact ⟨m + 1, by omega, by go_num, by rw [HM.out]; exact int_max _ _, hB.fr hf3 (by simp), hf.trans hf3⟩
            case measure => simp [intOf]; omega
          · rw [List.take_of_length_le (by omega)]
            rw [← HS.out] at *
            go_wp2
            go_roundw
            case rel => exact ⟨k + 1, by omega, by go_num, rfl, hB, hf⟩
            case measure => simp [intOf]; omega
      · rw [List.take_of_length_le (by omega)]
        rw [List.take_of_length_le (by omega)] at hs0
        go_wp2
        go_ret
        exact ⟨by rw [hT.out]; go_num, hf⟩

set_option maxRecDepth 20000 in
set_option maxHeartbeats 800000 in
theorem depth_any (n : Nat) : ∀ (t : T) (v : Value) (S : Nat → Prop) (w : World), RT S n w v t → t.depth ≤ 1000000 →
    Calls Tryz.prog 74 #[v] w (RetV w (.int .i64 (t.depth : Nat))) := by
  induction n with
  | zero => intro t v S w h; obtain ⟨_, _, _, h⟩ := h; exact absurd h id
  | succ n ih =>
    intro t v S w h hb
    obtain ⟨A, c, rfl, hR⟩ := h
    have hR : RowsB S (fun A c x => RH S n w A c x) w A c t.slots := hR
    have hl1 := hR.bound
    have hT := Lib.hid (T.depth_eq t)
    go_enter Tryz.func74, Tryz.ntmps74
    go_wp2
    go_loopw [3, 11] (fun s i wr => ∃ k : Nat, k ≤ t.slots.length ∧ i = .int .i64 k ∧ s = .int .i64 (fold2 dst 0 (t.slots.take k) : Nat) ∧ Blk wr w.heap.size 27 (tcells t A c) ∧ Fr [] w wr) (fun _ i _ => t.slots.length - (intOf i).toNat)
    case atStart => exact ⟨0, Nat.zero_le _, rfl, rfl, Blk.new _ _ _ _ rfl, Fr.alloc (Fr.refl _ _) _⟩
    case round =>
      obtain ⟨k, hk, rfl, rfl, hB, hf⟩ := hrel
      have q2 := hB.cell 2 rfl
      have hs0 := depth_upto t k
      by_cases hlt : k < t.slots.length
      · obtain ⟨b, off, r, A', c', rfl, hr, hc, hRow, hlr⟩ := hR.at_ hlt
        have hc := hf.cell hc (by simp)
        have HS := Lib.hid (fold2_take (f := dst) (b := 0) hr)
        have hin : Hid (∀ m, (r.take m).foldl dst (fold2 dst 0 (t.slots.take k)) < t.depth) := fun m => depth_in hr m
        generalize fold2 dst 0 (t.slots.take k) = s0 at *
        go_wp2
        go_loopw [3, 17] (fun s j wr => ∃ m : Nat, m ≤ r.length ∧ j = .int .i64 m ∧ s = .int .i64 ((r.take m).foldl dst s0 : Nat) ∧ Blk wr w.heap.size 27 (tcells t (some ⟨b, off, none⟩) c) ∧ Fr [] w wr) (fun _ j _ => r.length - (intOf j).toNat)
        case atStart => exact ⟨0, Nat.zero_le _, rfl, rfl, hB, hf⟩
        case round =>
          clear q2 hc hB hf
          obtain ⟨m, hm, rfl, rfl, hB, hf⟩ := hrel
          have q2 := hB.cell 2 rfl
          have hc := hf.cell (‹w.cell? ⟨b, off + k, none⟩ = _›) (by simp)
          have hb1 := hin.out m
          by_cases hlt2 : m < r.length
          · obtain ⟨b1, off1, x, A2, c2, rfl, hx, e0, e1, e2, hX⟩ := hRow.at_ hlt2
            have e0 := hf.cell e0 (by simp)
            have e1 := hf.cell e1 (by simp)
            have e2 := hf.cell e2 (by simp)
            have HM := Lib.hid (fold_take (f := dst) (b := s0) hx)
            have hb2 : max ((r.take m).foldl dst s0) x.depth < t.depth := by
              have := hin.out (m + 1)
              rw [HM.out] at this
              exact this
            generalize (r.take m).foldl dst s0 = s1 at *
            go_wp2_with fail
            refine (ih x _ S _ ⟨A2, c2, rfl, hX.fr0 frx⟩ (by omega)).mono ?_
            rintro e w3 ⟨rfl, hf3⟩
            go_wp2
            go_roundw
            case rel => exact ⟨m + 1, by omega, by go_num, by rw [HM.out]; exact int_max _ _, (hB.alloc _).fr hf3 (by simp), Fr.trans frx hf3⟩
            case measure => simp [intOf]; omega
          · rw [List.take_of_length_le (by omega)]
            rw [← HS.out] at *
            go_wp2
            go_roundw
            case rel => exact ⟨k + 1, by omega, by go_num, rfl, hB, hf⟩
            case measure => simp [intOf]; omega
      · rw [List.take_of_length_le (by omega)]
        rw [List.take_of_length_le (by omega)] at hs0
        go_wp2
        go_ret
        exact ⟨by rw [hT.out]; go_num, hf⟩
theorem fold_max_le {n : Nat} : ∀ (r : List T) (b : Nat), (∀ x ∈ r, x.depth ≤ n) → b ≤ n → r.foldl dst b ≤ n
 | [], _, _, h => h
 | x :: r, b, hx, h => fold_max_le r _ (fun y hy => hx y (by simp [hy])) (by have := hx x (by simp); simp only [dst]; omega)
theorem fold2_max_le {n : Nat} : ∀ (l : List (List T)) (b : Nat), (∀ r ∈ l, ∀ x ∈ r, x.depth ≤ n) → b ≤ n → fold2 dst b l ≤ n
 | [], _, _, h => h
 | r :: l, b, hx, h => fold2_max_le l _ (fun s hs => hx s (by simp [hs])) (fold_max_le r b (hx r (by simp)) h)
theorem RH.depth_le {S : Nat → Prop} {w : World} : ∀ {n : Nat} {A : Option Addr} {c : Nat} {t : T}, RH S n w A c t → t.depth ≤ n
  | 0, _, _, _, h => absurd h id
  | n + 1, A, c, t, h => by
    have h : RowsB S (fun A c x => RH S n w A c x) w A c t.slots := h
    rw [T.depth_eq]
    have : fold2 dst 0 t.slots ≤ n := fold2_max_le _ _ (fun r hr x hx => by
      obtain ⟨i, hi, rfl⟩ := List.getElem_of_mem hr
      obtain ⟨b, off, q, A', c', _, hq, _, hRow, _⟩ := h.at_ hi
      have hq : t.slots[i] = q := by have := hq.out; rw [List.getElem?_eq_getElem hi] at this; exact Option.some.inj this
      rw [hq] at hx
      obtain ⟨k, hk, rfl⟩ := List.getElem_of_mem hx
      obtain ⟨_, _, y, A2, c2, _, hy, _, _, _, hY⟩ := hRow.at_ hk
      have hy : q[k] = y := by have := hy.out; rw [List.getElem?_eq_getElem hk] at this; exact Option.some.inj this
      rw [hy]
      exact hY.depth_le) (Nat.zero_le _)
    exact Nat.succ_le_succ this
end

/- measure of the program. -/
section
open Go.RowKit
set_option maxRecDepth 20000 in
set_option maxHeartbeats 3200000 in
theorem measure_any (n : Nat) : ∀ (t : T) (v : Value) (S : Nat → Prop) (w : World) (deep : Nat) (bound : Int), RT S n w v t → deep ≤ 25 → (t.nodes : Int) ≤ bound → bound ≤ 1000000 →
    Calls Tryz.prog 54 #[v, .int .i64 (deep : Nat), .int .i64 bound] w (fun e w' => ∃ q : Nat, e = .returned (.tuple #[.int .i64 (q : Nat), .bool (decide (25 < t.depth + deep))]) ∧ 1 ≤ q ∧ q ≤ t.nodes ∧ Fr [] w w') := by
  induction n with
  | zero => intro t v S w _ _ h; obtain ⟨_, _, _, h⟩ := h; exact absurd h id
  | succ n ih =>
    intro t v S w deep bound h hd hb hbb
    obtain ⟨A, c, rfl, hR⟩ := h
    have hR : RowsB S (fun A c x => RH S n w A c x) w A c t.slots := hR
    have hl1 := hR.bound
    have hT := Lib.hid (T.depth_eq t)
    have hN := Lib.hid (T.nodes_eq t)
    go_enter Tryz.func54, Tryz.ntmps54
    go_wp2
    go_loopw [6, 7, 19] (fun s fv i wr => ∃ k q : Nat, k ≤ t.slots.length ∧ i = .int .i64 k ∧ s = .int .i64 (q : Nat) ∧ 1 ≤ q ∧ q ≤ fold2 nst 1 (t.slots.take k) ∧ fv = .bool (decide (25 < fold2 dst 0 (t.slots.take k) + 1 + deep)) ∧ Fr [] w wr) (fun _ _ i _ => t.slots.length - (intOf i).toNat)
    case atStart =>
      refine ⟨0, 1, Nat.zero_le _, rfl, rfl, Nat.le_refl _, Nat.le_refl _, ?_, Fr.alloc (Fr.refl _ _) _⟩
      congr 1
      rw [decide_eq_decide]
      show (24 : Int) < deep ↔ 25 < 0 + 1 + deep
      omega
    case round =>
      obtain ⟨k, q, hk, rfl, rfl, hq1, hq2, rfl, hf⟩ := hrel
      have hs0 := nodes_upto t k
      have hd0 := depth_upto t k
      by_cases hlt : k < t.slots.length
      · obtain ⟨b, off, r, A', c', rfl, hr, hc, hRow, hlr⟩ := hR.at_ hlt
        have hc := hf.cell hc (by simp)
        have HS := Lib.hid (fold2_take (f := nst) (b := 1) hr)
        have HD := Lib.hid (fold2_take (f := dst) (b := 0) hr)
        have hin : Hid (∀ m, (r.take m).foldl nst (fold2 nst 1 (t.slots.take k)) ≤ t.nodes) := fun m => nodes_in hr m
        have hdin : Hid (∀ m, (r.take m).foldl dst (fold2 dst 0 (t.slots.take k)) < t.depth) := fun m => depth_in hr m
        generalize fold2 nst 1 (t.slots.take k) = s0 at *
        generalize fold2 dst 0 (t.slots.take k) = d0 at *
        go_wp2
        go_loopw [6, 7, 25] (fun s fv j wr => ∃ m q : Nat, m ≤ r.length ∧ j = .int .i64 m ∧ s = .int .i64 (q : Nat) ∧ 1 ≤ q ∧ q ≤ (r.take m).foldl nst s0 ∧ fv = .bool (decide (25 < (r.take m).foldl dst d0 + 1 + deep)) ∧ Fr [] w wr) (fun _ _ j _ => r.length - (intOf j).toNat)
        case atStart => exact ⟨0, q, Nat.zero_le _, rfl, rfl, hq1, hq2, rfl, hf⟩
        case round =>
          clear hc hf hq1 hq2
          obtain ⟨m, q, hm, rfl, rfl, hq1, hq2, rfl, hf⟩ := hrel
          have hb1 := hin.out m
          have hdb1 := hdin.out m
          by_cases hlt2 : m < r.length
          · obtain ⟨b1, off1, x, A2, c2, rfl, hx, e0, e1, e2, hX⟩ := hRow.at_ hlt2
            have e0 := hf.cell e0 (by simp)
            have e1 := hf.cell e1 (by simp)
            have e2 := hf.cell e2 (by simp)
            have HM := Lib.hid (fold_take (f := nst) (b := s0) hx)
            have HMD := Lib.hid (fold_take (f := dst) (b := d0) hx)
            have hb2 : (r.take m).foldl nst s0 + x.nodes ≤ t.nodes := by
              have := hin.out (m + 1)
              rw [HM.out] at this
              exact this
            have hxn := T.nodes_pos x
            generalize (r.take m).foldl nst s0 = s1 at *
            generalize (r.take m).foldl dst d0 = d1 at *
            have hqb : decide (bound < (q : Int)) = false := by simp; omega
            have hD : d1 < t.depth := hdb1
            rcases hfv : decide (25 < d1 + 1 + deep) with _ | _
            · have hfar : ¬ 25 < d1 + 1 + deep := by simpa using hfv
              clear hfv
              have hdd : deep + 1 ≤ 25 := by omega
              have hbq : (x.nodes : Int) ≤ bound - q := by omega
              have HMD2 : Hid (decide (25 < x.depth + (deep + 1)) = decide (25 < dst d1 x + 1 + deep)) := by
                show _ = _
                rw [decide_eq_decide]
                show 25 < x.depth + (deep + 1) ↔ 25 < max d1 x.depth + 1 + deep
                omega
              have hfar := Lib.hid hfar
              have hwa : wrap64 (bound - (q : Int)) = bound - q := IntWalk.wrap64_in _ (by omega)
              go_wp2_with fail
              refine (ih x _ S _ (deep + 1) (bound - q) ⟨A2, c2, rfl, hX.fr0 (Fr.trans hf frx)⟩ hdd hbq (by omega)).mono ?_
              rw [HMD2.out]
              rintro e w3 ⟨q3, rfl, hq31, hq32, hf3⟩
              go_wp2
              go_roundw
              case rel => exact ⟨m + 1, q + q3, by omega, by go_num, by go_num, by omega, by rw [HM.out]; simp only [nst]; omega, by rw [HMD.out], Fr.trans hf (Fr.trans frx hf3)⟩
              case measure => simp [intOf]; omega
            · have hfar : 25 < d1 + 1 + deep := by simpa using hfv
              clear hfv
              have hE : Hid (decide (25 < t.depth + deep) = true) := by show _ = _; simp; omega
              have hfar := Lib.hid hfar
              go_wp2
              go_ret2
              exact ⟨q, by rw [hE.out]; rfl, hq1, by omega, Fr.trans hf frx⟩
          · rw [List.take_of_length_le (by omega)] at hq2 ⊢
            rw [← HS.out] at *
            rw [← HD.out] at *
            go_wp2
            go_roundw
            case rel => exact ⟨k + 1, q, by omega, by go_num, rfl, hq1, hq2, rfl, hf⟩
            case measure => simp [intOf]; omega
      · rw [List.take_of_length_le (by omega)] at hq2 hs0 ⊢
        have hE : Hid (fold2 dst 0 t.slots + 1 = t.depth) := hT.out.symm
        rw [hE.out] at *
        go_wp2
        go_ret2
        exact ⟨q, rfl, hq1, Nat.le_trans hq2 hs0, hf⟩
end

/- huge: what it lets pass has at most 30 nodes. -/
section
open Go.RowKit
def RetHuge (w : World) (t : T) (e : Ending) (w' : World) : Prop := ∃ b, e = .returned (.bool b) ∧ Fr [] w w' ∧ (b = false → t.nodes ≤ 30)
set_option maxRecDepth 20000 in
set_option maxHeartbeats 3200000 in
theorem huge_any (A : Option Addr) (c : Nat) (g : List Ru) (n : Nat) (t : T) (v : Value) (S : Nat → Prop) (w : World) (ha : RRu w A c g) (ht : RT S n w v t) :
  Calls Tryz.prog 4 #[.agg #[.slice A g.length c], v] w (RetHuge w t) := by
 obtain ⟨AT, cT, rfl, hR⟩ := ht
 have hgb := ha.bound
 obtain ⟨W, hW⟩ : ∃ W, W = (w.alloc (.cells #[.slice A g.length c] 24)).alloc (.cells (tcells t AT cT) 27) := ⟨_, rfl⟩
 have hF : Fr [] w W := by rw [hW]; exact frx
 have hB1 : Blk W w.heap.size 24 #[.slice A g.length c] := by rw [hW]; exact (Blk.new w _ _ _ rfl).alloc _
 have hB2 : Blk W (w.heap.size + 1) 27 (tcells t AT cT) := by rw [hW]; exact Blk.new _ _ _ _ (by simp)
 have q0 := hB1.cell 0 rfl
 rw [hW] at q0
 have HW := Lib.hid hW.symm
 clear hW
 by_cases hbig : 40 < g.length
 ·go_enter Tryz.func4, Tryz.ntmps4
  go_wp2_with fail
  go_ret
  rw [HW.out]
  exact ⟨true, rfl, hF, fun h => by cases h⟩
 go_enter Tryz.func4, Tryz.ntmps4
 go_wp2_with fail
 rw [HW.out]
 clear q0
 go_loopw [5, 6] (fun v i wr => ∃ k m : Nat, k ≤ g.length ∧ i = .int .i64 k ∧ v = .int .i64 m ∧ m ≤ k * 2000 ∧ Fr [] W wr) (fun _ i _ => g.length - (intOf i).toNat)
 case atStart => exact ⟨0, 0, Nat.zero_le _, rfl, rfl, Nat.le_refl _, Fr.refl _ _⟩
 case round =>
  obtain ⟨k, m, hk, rfl, rfl, hm, hf⟩ := hrel
  have hB1 := hB1.fr hf (by simp)
  have hB2 := hB2.fr hf (by simp)
  have q0 := hB1.cell 0 rfl
  by_cases hlt : k < g.length
  ·obtain ⟨b, off, r, A1, c1, rfl, hr, e0, e1, e2, e3, hSl⟩ := ha.at_ hlt
   have hFr := hF.trans hf
   have e0 := hFr.cell e0 (by simp)
   have e1 := hFr.cell e1 (by simp)
   have e2 := hFr.cell e2 (by simp)
   have e3 := hFr.cell e3 (by simp)
   have hsb := hSl.bound
   obtain ⟨lf, hlf⟩ : ∃ lf, r.leaf = lf := ⟨_, rfl⟩
   rw [hlf] at e2
   obtain ⟨W1, hW1⟩ : ∃ W, W = wr.alloc (.cells #[.string r.before, .string r.after, .bool lf, .slice A1 r.slots.length c1] 51) := ⟨_, rfl⟩
   have hf1 : Fr [] wr W1 := by rw [hW1]; exact frx
   have hB3 : Blk W1 wr.heap.size 51 #[.string r.before, .string r.after, .bool lf, .slice A1 r.slots.length c1] := by rw [hW1]; exact Blk.new _ _ _ _ rfl
   have k0 := hB3.cell 0 rfl
   have k1 := hB3.cell 1 rfl
   have k3 := hB3.cell 3 rfl
   rw [hW1] at k0 k1 k3
   have HW1 := Lib.hid hW1.symm
   clear hW1 hlf
   by_cases h1 : 12 < r.slots.length
   ·go_wp2_with fail
    go_ret
    rw [HW1.out]
    exact ⟨true, rfl, hFr.trans hf1, fun h => by cases h⟩
   by_cases h2 : 40 < r.before.size
   ·go_wp2_with fail
    go_ret
    rw [HW1.out]
    exact ⟨true, rfl, hFr.trans hf1, fun h => by cases h⟩
   by_cases h3 : 40 < r.after.size
   ·go_wp2_with fail
    go_ret
    rw [HW1.out]
    exact ⟨true, rfl, hFr.trans hf1, fun h => by cases h⟩
   go_wp2_with fail
   rw [HW1.out]
   clear k0 k1 k3
   obtain ⟨V, rfl⟩ : ∃ V, V = wr := ⟨wr, rfl⟩
   go_loopw [5, 8] (fun v i wr => ∃ j m : Nat, j ≤ r.slots.length ∧ i = .int .i64 j ∧ v = .int .i64 m ∧ m ≤ k * 2000 + j * 150 ∧ Fr [] W1 wr) (fun _ i _ => r.slots.length - (intOf i).toNat)
   case atStart => exact ⟨0, m, Nat.zero_le _, rfl, rfl, by omega, Fr.refl _ _⟩
   case round =>
    obtain ⟨j, m2, hj, rfl, rfl, hm2, hf2⟩ := hrel
    have hB3 := hB3.fr hf2 (by simp)
    have k3 := hB3.cell 3 rfl
    by_cases hlt2 : j < r.slots.length
    ·obtain ⟨b2, off2, s, A4, c4, rfl, hs, hmn, s0, s1, hks, s2⟩ := hSl.at_ hlt2
     have hFs := (hFr.trans hf1).trans hf2
     have s1 := hFs.cell s1 (by simp)
     have s2 := hFs.cell s2 (by simp)
     have hkb := hks.bound
     by_cases h4 : 40 < s.between.size
     ·by_cases h5 : s.kinds.length ≤ 100
      ·go_wp2_with fail
       go_ret
       exact ⟨true, rfl, hFs, fun h => by cases h⟩
      ·go_wp2_with fail
       go_ret
       exact ⟨true, rfl, hFs, fun h => by cases h⟩
     ·by_cases h5 : s.kinds.length ≤ 100
      ·go_wp2_with fail
       go_roundw
       case rel => exact ⟨j + 1, m2 + 1 + s.kinds.length, by omega, by go_num, by go_num, by omega, hf2⟩
       case measure => simp [intOf]; omega
      ·go_wp2_with fail
       go_roundw
       case rel => exact ⟨j + 1, m2 + 1 + 100, by omega, by go_num, by go_num, by omega, hf2⟩
       case measure => simp [intOf]; omega
    ·obtain rfl : j = r.slots.length := by omega
     go_wp2_with fail
     go_roundw
     case rel => exact ⟨k + 1, m2, by omega, by go_num, rfl, by omega, (hf.trans hf1).trans hf2⟩
     case measure => simp [intOf]; omega
  ·obtain rfl : k = g.length := by omega
   have p0 := hB2.cell 0 rfl
   have p1 := hB2.cell 1 rfl
   have p2 := hB2.cell 2 rfl
   by_cases h6 : 200 < m
   ·go_wp2_with fail
    go_ret
    exact ⟨true, rfl, hF.trans hf, fun h => by cases h⟩
   ·go_wp2_with fail
    refine (deep_any n t _ S _ 30 ⟨AT, cT, rfl, hR.fr0 (hF.trans hf)⟩ (by omega) (by omega)).mono ?_
    rintro e w5 ⟨rfl, hf5⟩
    go_wp2_with fail
    go_ret
    refine ⟨_, rfl, (hF.trans hf).trans hf5, fun h => ?_⟩
    have h : ¬ deepT t 30 < 0 := by simp at h; omega
    have := deep_nodes t 30 (by omega)
    omega
end

end Go.Proofs.YtippadnbngcjlaaGreatDoor
