/- The contracts of the reference's small functions on lists. -/
import Derived.Test.YtjpbmbonccenfaaProg
import Derived.Test.YtjpbmbonccenfaaBase
import Derived.Deep.QuietTactic
import Derived.BigQuiet
import Derived.Outline
import Derived.LoopTactic
namespace Go.Proofs.Ytjpbmbonccenfaa
open Go.RowKit
set_option linter.unusedVariables false

theorem take_succ_eq {xs ys : List Int} {k : Nat} {x y : Int} (h : xs.take k = ys.take k) (hx : Hid (xs[k]? = some x)) (hy : Hid (ys[k]? = some y)) (e : x = y) : xs.take (k + 1) = ys.take (k + 1) := by
  rw [List.take_add_one, List.take_add_one, h, hx.out, hy.out, e]

theorem ne_of_at {xs ys : List Int} {k : Nat} {x y : Int} (hx : Hid (xs[k]? = some x)) (hy : Hid (ys[k]? = some y)) (e : x ≠ y) : xs ≠ ys := by
  rintro rfl
  exact e (by have := hx.out.symm.trans hy.out; simpa using this)

set_option maxHeartbeats 400000 in
theorem Ints_any (A B : Option Addr) (ca cb : Nat) (xs ys : List Int) (w : World) (ha : Rd w (.int .i64) A ca xs) (hb : Rd w (.int .i64) B cb ys) :
    Calls Try.prog 48 #[.slice A xs.length ca, .slice B ys.length cb] w (RetQ w (.bool (decide (xs = ys)))) := by
  have ha1 := ha.bound
  have hb1 := hb.bound
  by_cases hl : xs.length = ys.length
  · have hl1 : (xs.length : Int) ≤ ys.length := by omega
    have hl2 : (ys.length : Int) ≤ xs.length := by omega
    have HL := Lib.hid hl
    clear hl
    go_enter Try.func48, Try.ntmps48
    go_wp2
    go_loopw [5] (fun i wr => ∃ k : Nat, k ≤ xs.length ∧ i = .int .i64 k ∧ xs.take k = ys.take k ∧ ∃ n, wr = w.drewN n) (fun i _ => xs.length - (intOf i).toNat)
    case atStart => exact ⟨0, Nat.zero_le _, rfl, by simp, 0, rfl⟩
    case round =>
      obtain ⟨k, hk, rfl, heq, n, rfl⟩ := hrel
      have HE := Lib.hid heq
      clear heq
      by_cases hlt : k < xs.length
      · obtain ⟨b1, o1, x, rfl, hx, hc1⟩ := ha.at_ hlt
        obtain ⟨b2, o2, y, rfl, hy, hc2⟩ := hb.at_ (k := k) (by omega)
        go_wp2
        go_quiet (fail)
        go_wp2
        · have hne : x ≠ y := by first | (have := ‹(x != y) = true›; simpa using this) | assumption
          go_ret
          refine ⟨ret_bool ?_, _, World.drewN_drewN ..⟩
          simp [ne_of_at hx hy hne]
        · have he : x = y := by first | (have := ‹(x != y) = false›; simpa using this) | (have := ‹¬ (x != y) = true›; simpa using this) | assumption
          go_roundw
          case rel => exact ⟨k + 1, by omega, by go_num, take_succ_eq HE.out hx hy he, _, by first | rfl | exact World.drewN_drewN ..⟩
          case measure => simp [intOf]; omega
      · go_wp2
        go_ret
        refine ⟨ret_bool ?_, _, rfl⟩
        have h := HE.out
        have hl := HL.out
        rw [List.take_of_length_le (by omega), List.take_of_length_le (by omega)] at h
        simp [h]
  · have hl1 : ((xs.length : Int) != ys.length) = true := by simp; omega
    have HL := Lib.hid hl
    clear hl
    go_enter Try.func48, Try.ntmps48
    go_wp2
    go_ret
    refine ⟨ret_bool ?_, 0, rfl⟩
    simp
    intro h
    exact HL.out (by rw [h])

/-- An answer as it counts. -/
def told (v : Int) : Int := if v = 1 ∨ v = 2 then v else 3

theorem told_any (v : Int) (w : World) : Calls Try.prog 71 #[.int .u8 v] w (RetQ w (.int .u8 (told v))) := by
  by_cases h1 : v = 1
  · subst h1
    go_enter Try.func71, Try.ntmps71
    go_wp2
    go_ret
    exact ⟨rfl, 0, rfl⟩
  · by_cases h2 : v = 2
    · subst h2
      go_enter Try.func71, Try.ntmps71
      go_wp2
      go_ret
      exact ⟨rfl, 0, rfl⟩
    · have b1 : (v == 1) = false := by simpa using h1
      have b2 : (v == 2) = false := by simpa using h2
      have ht := Lib.hid (show told v = 3 by simp [told, h1, h2])
      clear h1 h2
      go_enter Try.func71, Try.ntmps71
      go_wp2
      go_ret
      exact ⟨ret_int ht.out.symm, 0, rfl⟩

theorem plain_any (v : Int) (w : World) : Calls Try.prog 70 #[.int .u8 v] w (RetQ w (.int .u8 (told v))) := by
  by_cases h1 : v = 1
  · subst h1
    go_enter Try.func70, Try.ntmps70
    go_wp2
    go_ret
    exact ⟨rfl, 0, rfl⟩
  · by_cases h2 : v = 2
    · subst h2
      go_enter Try.func70, Try.ntmps70
      go_wp2
      go_ret
      exact ⟨rfl, 0, rfl⟩
    · have b1 : (v == 1) = false := by simpa using h1
      have b2 : (v == 2) = false := by simpa using h2
      have ht := Lib.hid (show told v = 3 by simp [told, h1, h2])
      clear h1 h2
      go_enter Try.func70, Try.ntmps70
      go_wp2
      go_ret
      exact ⟨ret_int ht.out.symm, 0, rfl⟩

theorem mem_take_succ {xs : List Int} {k : Nat} {x n : Int} (h : n ∉ xs.take k) (hx : Hid (xs[k]? = some x)) (e : ¬ x = n) : n ∉ xs.take (k + 1) := by
  rw [List.take_add_one, hx.out]
  simp
  exact ⟨h, fun h => e h.symm⟩
theorem mem_of_at {xs : List Int} {k : Nat} {x n : Int} (hx : Hid (xs[k]? = some x)) (e : x = n) : n ∈ xs := e ▸ List.mem_of_getElem? hx.out

theorem Has_any (A : Option Addr) (c : Nat) (xs : List Int) (n : Int) (w : World) (ha : Rd w (.int .i64) A c xs) :
    Calls Try.prog 27 #[.slice A xs.length c, .int .i64 n] w (RetQ w (.bool (decide (n ∈ xs)))) := by
  have ha1 := ha.bound
  go_enter Try.func27, Try.ntmps27
  go_wp2
  go_loop [5] (fun i => ∃ k : Nat, k ≤ xs.length ∧ i = .int .i64 k ∧ n ∉ xs.take k) (fun i => xs.length - (intOf i).toNat)
  case atStart => exact ⟨0, Nat.zero_le _, rfl, by simp⟩
  case round =>
    obtain ⟨k, hk, rfl, heq⟩ := hrel
    have HE := Lib.hid heq
    clear heq
    by_cases hlt : k < xs.length
    · obtain ⟨b1, o1, x, rfl, hx, hc1⟩ := ha.at_ hlt
      go_wp2
      · have he : x = n := by first | (have := ‹(x == n) = true›; simpa using this) | assumption
        go_ret
        refine ⟨ret_bool ?_, 0, rfl⟩
        simp [mem_of_at hx he]
      · have he : ¬ x = n := by first | (have := ‹(x == n) = false›; simpa using this) | (have := ‹¬ (x == n) = true›; simpa using this) | assumption
        go_round
        case rel => exact ⟨k + 1, by omega, by go_num, mem_take_succ HE.out hx he⟩
        case measure => simp [intOf]; omega
    · go_wp2
      go_ret
      refine ⟨ret_bool ?_, 0, rfl⟩
      have h := HE.out
      rw [List.take_of_length_le (by omega)] at h
      simp [h]

theorem has_any (A : Option Addr) (c : Nat) (xs : List Int) (n : Int) (w : World) (ha : Rd w (.int .i64) A c xs) :
    Calls Try.prog 55 #[.slice A xs.length c, .int .i64 n] w (RetQ w (.bool (decide (n ∈ xs)))) := by
  have ha1 := ha.bound
  go_enter Try.func55, Try.ntmps55
  go_wp2
  go_loop [9] (fun i => ∃ k : Nat, k ≤ xs.length ∧ i = .int .i64 k ∧ n ∉ xs.take k) (fun i => xs.length - (intOf i).toNat)
  case atStart => exact ⟨0, Nat.zero_le _, rfl, by simp⟩
  case round =>
    obtain ⟨k, hk, rfl, heq⟩ := hrel
    have HE := Lib.hid heq
    clear heq
    by_cases hlt : k < xs.length
    · obtain ⟨b1, o1, x, rfl, hx, hc1⟩ := ha.at_ hlt
      go_wp2
      · have he : x = n := by first | (have := ‹(x == n) = true›; simpa using this) | assumption
        go_ret
        refine ⟨ret_bool ?_, 0, rfl⟩
        simp [mem_of_at hx he]
      · have he : ¬ x = n := by first | (have := ‹(x == n) = false›; simpa using this) | (have := ‹¬ (x == n) = true›; simpa using this) | assumption
        go_round
        case rel => exact ⟨k + 1, by omega, by go_num, mem_take_succ HE.out hx he⟩
        case measure => simp [intOf]; omega
    · go_wp2
      go_ret
      refine ⟨ret_bool ?_, 0, rfl⟩
      have h := HE.out
      rw [List.take_of_length_le (by omega)] at h
      simp [h]
/-- Strictly rising from above p on, from 0 to below n. -/
def chain (n : Int) : Int → List Int → Bool
  | _, [] => true
  | p, x :: xs => decide (p < x) && decide (0 ≤ x) && decide (x < n) && chain n x xs
/-- Is a list a set of numbers from 0 to below n? -/
def isSet (n : Int) (xs : List Int) : Bool := chain n (-1) xs
/-- what stands ahead of place k -/
def prevAt (xs : List Int) (k : Nat) : Int := if k = 0 then -1 else xs.getD (k - 1) 0
theorem chain_step {n : Int} {xs : List Int} {k : Nat} {x : Int} (hx : Hid (xs[k]? = some x)) (p : Int) :
    chain n p (xs.drop k) = (decide (p < x) && decide (0 ≤ x) && decide (x < n) && chain n x (xs.drop (k + 1))) := by
  have hk : k < xs.length := (List.getElem?_eq_some_iff.1 hx.out).1
  have he : xs[k] = x := (List.getElem?_eq_some_iff.1 hx.out).2
  rw [List.drop_eq_getElem_cons hk, he, chain]
theorem prevAt_succ {xs : List Int} {k : Nat} {x : Int} (hx : Hid (xs[k]? = some x)) : prevAt xs (k + 1) = x := by
  simp [prevAt, hx.out]
theorem set_low {n : Int} {xs : List Int} {k : Nat} {x : Int} (hx : Hid (xs[k]? = some x)) (h : Hid (isSet n xs = chain n (prevAt xs k) (xs.drop k))) (hb : x < 0 ∨ n ≤ x) : isSet n xs = false := by
  rw [h.out, chain_step hx]
  rcases hb with hb | hb <;> simp <;> intros <;> omega
theorem set_on {n : Int} {xs : List Int} {k : Nat} {x : Int} (hx : Hid (xs[k]? = some x)) (h : Hid (isSet n xs = chain n (prevAt xs k) (xs.drop k))) (h0 : 0 ≤ x) (hn : x < n) (hp : prevAt xs k < x) : isSet n xs = chain n (prevAt xs (k + 1)) (xs.drop (k + 1)) := by
  rw [h.out, chain_step hx, prevAt_succ hx]
  simp [h0, hn, hp]
theorem set_bad {n : Int} {xs : List Int} {k : Nat} {x : Int} (hx : Hid (xs[k]? = some x)) (h : Hid (isSet n xs = chain n (prevAt xs k) (xs.drop k))) (hp : x ≤ prevAt xs k) : isSet n xs = false := by
  rw [h.out, chain_step hx]
  simp; intros; omega
theorem prevAt_pos {xs : List Int} {k : Nat} {y : Int} (hk : ¬ k = 0) (hy : Hid (xs[k - 1]? = some y)) : prevAt xs k = y := by
  simp [prevAt, hk, hy.out]

set_option maxHeartbeats 800000 in
theorem Set_any (A : Option Addr) (c : Nat) (xs : List Int) (n : Int) (w : World) (ha : Rd w (.int .i64) A c xs) :
    Calls Try.prog 22 #[.slice A xs.length c, .int .i64 n] w (RetQ w (.bool (isSet n xs))) := by
  have ha1 := ha.bound
  go_enter Try.func22, Try.ntmps22
  go_wp2
  go_loopw [5] (fun i wr => ∃ k : Nat, k ≤ xs.length ∧ i = .int .i64 k ∧ isSet n xs = chain n (prevAt xs k) (xs.drop k) ∧ ∃ m, wr = w.drewN m) (fun i _ => xs.length - (intOf i).toNat)
  case atStart => exact ⟨0, Nat.zero_le _, rfl, by simp [isSet, prevAt], 0, rfl⟩
  case round =>
    obtain ⟨k, hk, rfl, heq, m, rfl⟩ := hrel
    have HE := Lib.hid heq
    clear heq
    by_cases hlt : k < xs.length
    · obtain ⟨b1, o1, x, hA, hx, hc1⟩ := ha.at_ hlt
      by_cases h0 : x < 0
      · subst hA
        have d0 : decide (x < 0) = true := by simpa using h0
        go_wp2
        go_quiet (fail)
        go_wp2
        go_ret
        exact ⟨ret_bool (set_low hx HE (.inl h0)).symm, _, by first | rfl | exact World.drewN_drewN ..⟩
      · have h0' : 0 ≤ x := by omega
        have d0 : decide (x < 0) = false := by simpa using h0
        by_cases hn : n ≤ x
        · subst hA
          have d1 : decide (n ≤ x) = true := by simpa using hn
          go_wp2
          go_quiet (fail)
          go_wp2
          go_ret
          exact ⟨ret_bool (set_low hx HE (.inr hn)).symm, _, by first | rfl | exact World.drewN_drewN ..⟩
        · have hn' : x < n := by omega
          have d1 : decide (n ≤ x) = false := by simpa using hn
          by_cases hk0 : k = 0
          · have hp := Lib.hid (show prevAt xs k < x by simp [prevAt, hk0]; omega)
            have d2 : decide (0 < k) = false := by simp [hk0]
            subst hA
            clear hk0
            go_wp2
            go_quiet (fail)
            go_wp2
            go_roundw
            case rel => exact ⟨k + 1, by omega, by go_num, set_on hx HE h0' hn' hp.out, _, by first | rfl | exact World.drewN_drewN ..⟩
            case measure => simp [intOf]; omega
          · have hk1 : (0 : Int) < (k : Int) := by omega
            have d2 : decide (0 < k) = true := by simp; omega
            obtain ⟨b2, o2, y, hA2, hy, hc2⟩ := ha.at_ (k := k - 1) (by omega)
            subst hA
            obtain ⟨rfl, rfl⟩ : b1 = b2 ∧ o1 = o2 := by simpa using hA2
            clear hA2
            have hp := Lib.hid (prevAt_pos hk0 hy)
            by_cases hyx : x ≤ y
            · go_wp2
              go_quiet (fail)
              go_wp2
              go_ret
              exact ⟨ret_bool (set_bad hx HE (by rw [hp.out]; exact hyx)).symm, _, by first | rfl | exact World.drewN_drewN ..⟩
            · have hyx' : y < x := by omega
              go_wp2
              go_quiet (fail)
              go_wp2
              go_roundw
              case rel => exact ⟨k + 1, by omega, by go_num, set_on hx HE h0' hn' (by rw [hp.out]; exact hyx'), _, by first | rfl | exact World.drewN_drewN ..⟩
              case measure => simp [intOf]; omega
    · go_wp2
      go_ret
      refine ⟨ret_bool ?_, _, rfl⟩
      rw [HE.out, List.drop_of_length_le (by omega), chain]

set_option maxHeartbeats 800000 in
theorem rising_any (A : Option Addr) (c : Nat) (xs : List Int) (n : Int) (w : World) (ha : Rd w (.int .i64) A c xs) :
    Calls Try.prog 53 #[.slice A xs.length c, .int .i64 n] w (RetQ w (.bool (isSet n xs))) := by
  have ha1 := ha.bound
  go_enter Try.func53, Try.ntmps53
  go_wp2
  go_loopw [9] (fun i wr => ∃ k : Nat, k ≤ xs.length ∧ i = .int .i64 k ∧ isSet n xs = chain n (prevAt xs k) (xs.drop k) ∧ ∃ m, wr = w.drewN m) (fun i _ => xs.length - (intOf i).toNat)
  case atStart => exact ⟨0, Nat.zero_le _, rfl, by simp [isSet, prevAt], 0, rfl⟩
  case round =>
    obtain ⟨k, hk, rfl, heq, m, rfl⟩ := hrel
    have HE := Lib.hid heq
    clear heq
    by_cases hlt : k < xs.length
    · obtain ⟨b1, o1, x, hA, hx, hc1⟩ := ha.at_ hlt
      by_cases h0 : x < 0
      · subst hA
        go_wp2
        go_ret
        exact ⟨ret_bool (set_low hx HE (.inl h0)).symm, _, by first | rfl | exact World.drewN_drewN ..⟩
      · have h0' : 0 ≤ x := by omega
        by_cases hn : n ≤ x
        · subst hA
          go_wp2
          go_ret
          exact ⟨ret_bool (set_low hx HE (.inr hn)).symm, _, by first | rfl | exact World.drewN_drewN ..⟩
        · have hn' : x < n := by omega
          by_cases hk0 : k = 0
          · subst hk0
            subst hA
            rw [Nat.add_zero] at hc1
            go_wp2
            go_roundw
            case rel => exact ⟨1, by omega, by go_num, set_on hx HE h0' hn' (by simp [prevAt]; omega), _, by first | rfl | exact World.drewN_drewN ..⟩
            case measure => simp [intOf]; omega
          · have hk1 : (0 : Int) < (k : Int) := by omega
            obtain ⟨b2, o2, y, hA2, hy, hc2⟩ := ha.at_ (k := k - 1) (by omega)
            subst hA
            obtain ⟨rfl, rfl⟩ : b1 = b2 ∧ o1 = o2 := by simpa using hA2
            clear hA2
            have hp := Lib.hid (prevAt_pos hk0 hy)
            by_cases hyx : x ≤ y
            · go_wp2
              go_ret
              exact ⟨ret_bool (set_bad hx HE (by rw [hp.out]; exact hyx)).symm, _, by first | rfl | exact World.drewN_drewN ..⟩
            · have hyx' : y < x := by omega
              go_wp2
              go_roundw
              case rel => exact ⟨k + 1, by omega, by go_num, set_on hx HE h0' hn' (by rw [hp.out]; exact hyx'), _, by first | rfl | exact World.drewN_drewN ..⟩
              case measure => simp [intOf]; omega
    · go_wp2
      go_ret
      refine ⟨ret_bool ?_, _, rfl⟩
      rw [HE.out, List.drop_of_length_le (by omega), chain]

end Go.Proofs.Ytjpbmbonccenfaa
