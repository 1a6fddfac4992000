/- Texts of this seat, one behind the other: Ref1, Ref2, Play, End, Ver, Betw, FrP, Quest, Same. -/
import Derived.Test.YtjpbmbonccenfaaDoorProg
import Derived.Test.YtjpbmbonccenfaaDoort21
import Derived.Deep.QuietTactic
import Derived.BigQuiet
import Derived.Outline
import Derived.LoopTactic
/- The contracts of the reference's small functions on lists. -/
namespace Go.Proofs.YtjpbmbonccenfaaDoor
open Go.RowKit
set_option linter.unusedVariables false

theorem take_succ_eq {xs ys : List Int} {k : Nat} {x y : Int} (h : xs.take k = ys.take k) (hx : Hid (xs[k]? = some x)) (hy : Hid (ys[k]? = some y)) (e : x = y) : xs.take (k + 1) = ys.take (k + 1) := by
  rw [List.take_add_one, List.take_add_one, h, hx.out, hy.out, e]

theorem ne_of_at {xs ys : List Int} {k : Nat} {x y : Int} (hx : Hid (xs[k]? = some x)) (hy : Hid (ys[k]? = some y)) (e : x ≠ y) : xs ≠ ys := by
  rintro rfl
  exact e (by have := hx.out.symm.trans hy.out; simpa using this)

set_option maxHeartbeats 400000 in
theorem Ints_any (A B : Option Addr) (ca cb : Nat) (xs ys : List Int) (w : World) (ha : Rd w (.int .i64) A ca xs) (hb : Rd w (.int .i64) B cb ys) :
    Calls Tryd.prog 62 #[.slice A xs.length ca, .slice B ys.length cb] w (RetQ w (.bool (decide (xs = ys)))) := by
  have ha1 := ha.bound
  have hb1 := hb.bound
  by_cases hl : xs.length = ys.length
  · have hl1 : (xs.length : Int) ≤ ys.length := by omega
    have hl2 : (ys.length : Int) ≤ xs.length := by omega
    have HL := Lib.hid hl
    clear hl
    go_enter Tryd.func62, Tryd.ntmps62
    go_wp2
    go_loopw [5] (fun i wr => ∃ k : Nat, k ≤ xs.length ∧ i = .int .i64 k ∧ xs.take k = ys.take k ∧ ∃ n, wr = w.drewN n) (fun i _ => xs.length - (intOf i).toNat)
    case atStart => exact ⟨0, Nat.zero_le _, rfl, by simp, 0, rfl⟩
    case round =>
      obtain ⟨k, hk, rfl, heq, n, rfl⟩ := hrel
      have HE := Lib.hid heq
      clear heq
      by_cases hlt : k < xs.length
      · obtain ⟨b1, o1, x, rfl, hx, hc1⟩ := ha.at_ hlt
        obtain ⟨b2, o2, y, rfl, hy, hc2⟩ := hb.at_ (k := k) (by omega)
        go_wp2
        go_quiet (fail)
        go_wp2
        · have hne : x ≠ y := by first | (have := ‹(x != y) = true›; simpa using this) | assumption
          go_ret
          refine ⟨ret_bool ?_, _, World.drewN_drewN ..⟩
          simp [ne_of_at hx hy hne]
        · have he : x = y := by first | (have := ‹(x != y) = false›; simpa using this) | (have := ‹¬ (x != y) = true›; simpa using this) | assumption
          go_roundw
          case rel => exact ⟨k + 1, by omega, by go_num, take_succ_eq HE.out hx hy he, _, by first | rfl | exact World.drewN_drewN ..⟩
          case measure => simp [intOf]; omega
      · go_wp2
        go_ret
        refine ⟨ret_bool ?_, _, rfl⟩
        have h := HE.out
        have hl := HL.out
        rw [List.take_of_length_le (by omega), List.take_of_length_le (by omega)] at h
        simp [h]
  · have hl1 : ((xs.length : Int) != ys.length) = true := by simp; omega
    have HL := Lib.hid hl
    clear hl
    go_enter Tryd.func62, Tryd.ntmps62
    go_wp2
    go_ret
    refine ⟨ret_bool ?_, 0, rfl⟩
    simp
    intro h
    exact HL.out (by rw [h])

/-- An answer as it counts. -/
def told (v : Int) : Int := if v = 1 ∨ v = 2 then v else 3

theorem told_any (v : Int) (w : World) : Calls Tryd.prog 115 #[.int .u8 v] w (RetQ w (.int .u8 (told v))) := by
  by_cases h1 : v = 1
  · subst h1
    go_enter Tryd.func115, Tryd.ntmps115
    go_wp2
    go_ret
    exact ⟨rfl, 0, rfl⟩
  · by_cases h2 : v = 2
    · subst h2
      go_enter Tryd.func115, Tryd.ntmps115
      go_wp2
      go_ret
      exact ⟨rfl, 0, rfl⟩
    · have b1 : (v == 1) = false := by simpa using h1
      have b2 : (v == 2) = false := by simpa using h2
      have ht := Lib.hid (show told v = 3 by simp [told, h1, h2])
      clear h1 h2
      go_enter Tryd.func115, Tryd.ntmps115
      go_wp2
      go_ret
      exact ⟨ret_int ht.out.symm, 0, rfl⟩

theorem plain_any (v : Int) (w : World) : Calls Tryd.prog 116 #[.int .u8 v] w (RetQ w (.int .u8 (told v))) := by
  by_cases h1 : v = 1
  · subst h1
    go_enter Tryd.func116, Tryd.ntmps116
    go_wp2
    go_ret
    exact ⟨rfl, 0, rfl⟩
  · by_cases h2 : v = 2
    · subst h2
      go_enter Tryd.func116, Tryd.ntmps116
      go_wp2
      go_ret
      exact ⟨rfl, 0, rfl⟩
    · have b1 : (v == 1) = false := by simpa using h1
      have b2 : (v == 2) = false := by simpa using h2
      have ht := Lib.hid (show told v = 3 by simp [told, h1, h2])
      clear h1 h2
      go_enter Tryd.func116, Tryd.ntmps116
      go_wp2
      go_ret
      exact ⟨ret_int ht.out.symm, 0, rfl⟩

theorem mem_take_succ {xs : List Int} {k : Nat} {x n : Int} (h : n ∉ xs.take k) (hx : Hid (xs[k]? = some x)) (e : ¬ x = n) : n ∉ xs.take (k + 1) := by
  rw [List.take_add_one, hx.out]
  simp
  exact ⟨h, fun h => e h.symm⟩
theorem mem_of_at {xs : List Int} {k : Nat} {x n : Int} (hx : Hid (xs[k]? = some x)) (e : x = n) : n ∈ xs := e ▸ List.mem_of_getElem? hx.out

theorem Has_any (A : Option Addr) (c : Nat) (xs : List Int) (n : Int) (w : World) (ha : Rd w (.int .i64) A c xs) :
    Calls Tryd.prog 69 #[.slice A xs.length c, .int .i64 n] w (RetQ w (.bool (decide (n ∈ xs)))) := by
  have ha1 := ha.bound
  go_enter Tryd.func69, Tryd.ntmps69
  go_wp2
  go_loop [5] (fun i => ∃ k : Nat, k ≤ xs.length ∧ i = .int .i64 k ∧ n ∉ xs.take k) (fun i => xs.length - (intOf i).toNat)
  case atStart => exact ⟨0, Nat.zero_le _, rfl, by simp⟩
  case round =>
    obtain ⟨k, hk, rfl, heq⟩ := hrel
    have HE := Lib.hid heq
    clear heq
    by_cases hlt : k < xs.length
    · obtain ⟨b1, o1, x, rfl, hx, hc1⟩ := ha.at_ hlt
      go_wp2
      · have he : x = n := by first | (have := ‹(x == n) = true›; simpa using this) | assumption
        go_ret
        refine ⟨ret_bool ?_, 0, rfl⟩
        simp [mem_of_at hx he]
      · have he : ¬ x = n := by first | (have := ‹(x == n) = false›; simpa using this) | (have := ‹¬ (x == n) = true›; simpa using this) | assumption
        go_round
        case rel => exact ⟨k + 1, by omega, by go_num, mem_take_succ HE.out hx he⟩
        case measure => simp [intOf]; omega
    · go_wp2
      go_ret
      refine ⟨ret_bool ?_, 0, rfl⟩
      have h := HE.out
      rw [List.take_of_length_le (by omega)] at h
      simp [h]

theorem has_any (A : Option Addr) (c : Nat) (xs : List Int) (n : Int) (w : World) (ha : Rd w (.int .i64) A c xs) :
    Calls Tryd.prog 102 #[.slice A xs.length c, .int .i64 n] w (RetQ w (.bool (decide (n ∈ xs)))) := by
  have ha1 := ha.bound
  go_enter Tryd.func102, Tryd.ntmps102
  go_wp2
  go_loop [9] (fun i => ∃ k : Nat, k ≤ xs.length ∧ i = .int .i64 k ∧ n ∉ xs.take k) (fun i => xs.length - (intOf i).toNat)
  case atStart => exact ⟨0, Nat.zero_le _, rfl, by simp⟩
  case round =>
    obtain ⟨k, hk, rfl, heq⟩ := hrel
    have HE := Lib.hid heq
    clear heq
    by_cases hlt : k < xs.length
    · obtain ⟨b1, o1, x, rfl, hx, hc1⟩ := ha.at_ hlt
      go_wp2
      · have he : x = n := by first | (have := ‹(x == n) = true›; simpa using this) | assumption
        go_ret
        refine ⟨ret_bool ?_, 0, rfl⟩
        simp [mem_of_at hx he]
      · have he : ¬ x = n := by first | (have := ‹(x == n) = false›; simpa using this) | (have := ‹¬ (x == n) = true›; simpa using this) | assumption
        go_round
        case rel => exact ⟨k + 1, by omega, by go_num, mem_take_succ HE.out hx he⟩
        case measure => simp [intOf]; omega
    · go_wp2
      go_ret
      refine ⟨ret_bool ?_, 0, rfl⟩
      have h := HE.out
      rw [List.take_of_length_le (by omega)] at h
      simp [h]
/-- Strictly rising from above p on, from 0 to below n. -/
def chain (n : Int) : Int → List Int → Bool
  | _, [] => true
  | p, x :: xs => decide (p < x) && decide (0 ≤ x) && decide (x < n) && chain n x xs
/-- Is a list a set of numbers from 0 to below n? -/
def isSet (n : Int) (xs : List Int) : Bool := chain n (-1) xs
/-- what stands ahead of place k -/
def prevAt (xs : List Int) (k : Nat) : Int := if k = 0 then -1 else xs.getD (k - 1) 0
theorem chain_step {n : Int} {xs : List Int} {k : Nat} {x : Int} (hx : Hid (xs[k]? = some x)) (p : Int) :
    chain n p (xs.drop k) = (decide (p < x) && decide (0 ≤ x) && decide (x < n) && chain n x (xs.drop (k + 1))) := by
  have hk : k < xs.length := (List.getElem?_eq_some_iff.1 hx.out).1
  have he : xs[k] = x := (List.getElem?_eq_some_iff.1 hx.out).2
  rw [List.drop_eq_getElem_cons hk, he, chain]
theorem prevAt_succ {xs : List Int} {k : Nat} {x : Int} (hx : Hid (xs[k]? = some x)) : prevAt xs (k + 1) = x := by
  simp [prevAt, hx.out]
theorem set_low {n : Int} {xs : List Int} {k : Nat} {x : Int} (hx : Hid (xs[k]? = some x)) (h : Hid (isSet n xs = chain n (prevAt xs k) (xs.drop k))) (hb : x < 0 ∨ n ≤ x) : isSet n xs = false := by
  rw [h.out, chain_step hx]
  rcases hb with hb | hb <;> simp <;> intros <;> omega
theorem set_on {n : Int} {xs : List Int} {k : Nat} {x : Int} (hx : Hid (xs[k]? = some x)) (h : Hid (isSet n xs = chain n (prevAt xs k) (xs.drop k))) (h0 : 0 ≤ x) (hn : x < n) (hp : prevAt xs k < x) : isSet n xs = chain n (prevAt xs (k + 1)) (xs.drop (k + 1)) := by
  rw [h.out, chain_step hx, prevAt_succ hx]
  simp [h0, hn, hp]
theorem set_bad {n : Int} {xs : List Int} {k : Nat} {x : Int} (hx : Hid (xs[k]? = some x)) (h : Hid (isSet n xs = chain n (prevAt xs k) (xs.drop k))) (hp : x ≤ prevAt xs k) : isSet n xs = false := by
  rw [h.out, chain_step hx]
  simp; intros; omega
theorem prevAt_pos {xs : List Int} {k : Nat} {y : Int} (hk : ¬ k = 0) (hy : Hid (xs[k - 1]? = some y)) : prevAt xs k = y := by
  simp [prevAt, hk, hy.out]

set_option maxHeartbeats 800000 in
theorem Set_any (A : Option Addr) (c : Nat) (xs : List Int) (n : Int) (w : World) (ha : Rd w (.int .i64) A c xs) :
    Calls Tryd.prog 20 #[.slice A xs.length c, .int .i64 n] w (RetQ w (.bool (isSet n xs))) := by
  have ha1 := ha.bound
  go_enter Tryd.func20, Tryd.ntmps20
  go_wp2
  go_loopw [5] (fun i wr => ∃ k : Nat, k ≤ xs.length ∧ i = .int .i64 k ∧ isSet n xs = chain n (prevAt xs k) (xs.drop k) ∧ ∃ m, wr = w.drewN m) (fun i _ => xs.length - (intOf i).toNat)
  case atStart => exact ⟨0, Nat.zero_le _, rfl, by simp [isSet, prevAt], 0, rfl⟩
  case round =>
    obtain ⟨k, hk, rfl, heq, m, rfl⟩ := hrel
    have HE := Lib.hid heq
    clear heq
    by_cases hlt : k < xs.length
    · obtain ⟨b1, o1, x, hA, hx, hc1⟩ := ha.at_ hlt
      by_cases h0 : x < 0
      · subst hA
        have d0 : decide (x < 0) = true := by simpa using h0
        go_wp2
        go_quiet (fail)
        go_wp2
        go_ret
        exact ⟨ret_bool (set_low hx HE (.inl h0)).symm, _, by first | rfl | exact World.drewN_drewN ..⟩
      · have h0' : 0 ≤ x := by omega
        have d0 : decide (x < 0) = false := by simpa using h0
        by_cases hn : n ≤ x
        · subst hA
          have d1 : decide (n ≤ x) = true := by simpa using hn
          go_wp2
          go_quiet (fail)
          go_wp2
          go_ret
          exact ⟨ret_bool (set_low hx HE (.inr hn)).symm, _, by first | rfl | exact World.drewN_drewN ..⟩
        · have hn' : x < n := by omega
          have d1 : decide (n ≤ x) = false := by simpa using hn
          by_cases hk0 : k = 0
          · have hp := Lib.hid (show prevAt xs k < x by simp [prevAt, hk0]; omega)
            have d2 : decide (0 < k) = false := by simp [hk0]
            subst hA
            clear hk0
            go_wp2
            go_quiet (fail)
            go_wp2
            go_roundw
            case rel => exact ⟨k + 1, by omega, by go_num, set_on hx HE h0' hn' hp.out, _, by first | rfl | exact World.drewN_drewN ..⟩
            case measure => simp [intOf]; omega
          · have hk1 : (0 : Int) < (k : Int) := by omega
            have d2 : decide (0 < k) = true := by simp; omega
            obtain ⟨b2, o2, y, hA2, hy, hc2⟩ := ha.at_ (k := k - 1) (by omega)
            subst hA
            obtain ⟨rfl, rfl⟩ : b1 = b2 ∧ o1 = o2 := by simpa using hA2
            clear hA2
            have hp := Lib.hid (prevAt_pos hk0 hy)
            by_cases hyx : x ≤ y
            · go_wp2
              go_quiet (fail)
              go_wp2
              go_ret
              exact ⟨ret_bool (set_bad hx HE (by rw [hp.out]; exact hyx)).symm, _, by first | rfl | exact World.drewN_drewN ..⟩
            · have hyx' : y < x := by omega
              go_wp2
              go_quiet (fail)
              go_wp2
              go_roundw
              case rel => exact ⟨k + 1, by omega, by go_num, set_on hx HE h0' hn' (by rw [hp.out]; exact hyx'), _, by first | rfl | exact World.drewN_drewN ..⟩
              case measure => simp [intOf]; omega
    · go_wp2
      go_ret
      refine ⟨ret_bool ?_, _, rfl⟩
      rw [HE.out, List.drop_of_length_le (by omega), chain]

set_option maxHeartbeats 800000 in
theorem rising_any (A : Option Addr) (c : Nat) (xs : List Int) (n : Int) (w : World) (ha : Rd w (.int .i64) A c xs) :
    Calls Tryd.prog 63 #[.slice A xs.length c, .int .i64 n] w (RetQ w (.bool (isSet n xs))) := by
  have ha1 := ha.bound
  go_enter Tryd.func63, Tryd.ntmps63
  go_wp2
  go_loopw [9] (fun i wr => ∃ k : Nat, k ≤ xs.length ∧ i = .int .i64 k ∧ isSet n xs = chain n (prevAt xs k) (xs.drop k) ∧ ∃ m, wr = w.drewN m) (fun i _ => xs.length - (intOf i).toNat)
  case atStart => exact ⟨0, Nat.zero_le _, rfl, by simp [isSet, prevAt], 0, rfl⟩
  case round =>
    obtain ⟨k, hk, rfl, heq, m, rfl⟩ := hrel
    have HE := Lib.hid heq
    clear heq
    by_cases hlt : k < xs.length
    · obtain ⟨b1, o1, x, hA, hx, hc1⟩ := ha.at_ hlt
      by_cases h0 : x < 0
      · subst hA
        go_wp2
        go_ret
        exact ⟨ret_bool (set_low hx HE (.inl h0)).symm, _, by first | rfl | exact World.drewN_drewN ..⟩
      · have h0' : 0 ≤ x := by omega
        by_cases hn : n ≤ x
        · subst hA
          go_wp2
          go_ret
          exact ⟨ret_bool (set_low hx HE (.inr hn)).symm, _, by first | rfl | exact World.drewN_drewN ..⟩
        · have hn' : x < n := by omega
          by_cases hk0 : k = 0
          · subst hk0
            subst hA
            rw [Nat.add_zero] at hc1
            go_wp2
            go_roundw
            case rel => exact ⟨1, by omega, by go_num, set_on hx HE h0' hn' (by simp [prevAt]; omega), _, by first | rfl | exact World.drewN_drewN ..⟩
            case measure => simp [intOf]; omega
          · have hk1 : (0 : Int) < (k : Int) := by omega
            obtain ⟨b2, o2, y, hA2, hy, hc2⟩ := ha.at_ (k := k - 1) (by omega)
            subst hA
            obtain ⟨rfl, rfl⟩ : b1 = b2 ∧ o1 = o2 := by simpa using hA2
            clear hA2
            have hp := Lib.hid (prevAt_pos hk0 hy)
            by_cases hyx : x ≤ y
            · go_wp2
              go_ret
              exact ⟨ret_bool (set_bad hx HE (by rw [hp.out]; exact hyx)).symm, _, by first | rfl | exact World.drewN_drewN ..⟩
            · have hyx' : y < x := by omega
              go_wp2
              go_roundw
              case rel => exact ⟨k + 1, by omega, by go_num, set_on hx HE h0' hn' (by rw [hp.out]; exact hyx'), _, by first | rfl | exact World.drewN_drewN ..⟩
              case measure => simp [intOf]; omega
    · go_wp2
      go_ret
      refine ⟨ret_bool ?_, _, rfl⟩
      rw [HE.out, List.drop_of_length_le (by omega), chain]

end Go.Proofs.YtjpbmbonccenfaaDoor

/- The contracts of lists without others: Minus, without. -/
namespace Go.Proofs.YtjpbmbonccenfaaDoor
open Go.RowKit
set_option linter.unusedVariables false

theorem elemInts : Elem Tryd.prog 22 3 (.int .i64 0) 1 8 := ⟨Tryd.underlying22, by kernel_rfl, rfl, by omega, by omega⟩
theorem one_i64 (z : Int) : (Value.int .i64 z).oneCell' = true := rfl

/-- A list without the numbers of another one. -/
def minus (xs ys : List Int) : List Int := xs.filter fun x => decide (x ∉ ys)

theorem minus_hit {xs ys : List Int} {k : Nat} {x : Int} (hx : Hid (xs[k]? = some x)) (h : x ∈ ys) : minus (xs.take (k + 1)) ys = minus (xs.take k) ys := by
  rw [List.take_add_one, hx.out]; simp [minus, h]
theorem minus_miss {xs ys : List Int} {k : Nat} {x : Int} (hx : Hid (xs[k]? = some x)) (h : x ∉ ys) : minus (xs.take (k + 1)) ys = minus (xs.take k) ys ++ [x] := by
  rw [List.take_add_one, hx.out]; simp [minus, h]
theorem minus_le (xs ys : List Int) : (minus xs ys).length ≤ xs.length := List.length_filter_le _ _

set_option maxHeartbeats 800000 in
theorem Minus_any (A B : Option Addr) (ca cb : Nat) (xs ys : List Int) (w : World) (ha : Rd w (.int .i64) A ca xs) (hb : Rd w (.int .i64) B cb ys) (hlen : xs.length ≤ 1000000) :
    Calls Tryd.prog 22 #[.slice A xs.length ca, .slice B ys.length cb] w (RetOwn w 3 ((minus xs ys).map (.int .i64))) := by
  go_enter Tryd.func22, Tryd.ntmps22
  go_wp2
  go_loopw [5, 6] (fun v i wr => ∃ k : Nat, k ≤ xs.length ∧ i = .int .i64 k ∧ Gath w 3 ((minus (xs.take k) ys).map (.int .i64)) v wr) (fun _ i _ => xs.length - (intOf i).toNat)
  case atStart => exact ⟨0, Nat.zero_le _, rfl, Gath.start _ _ (by simp [minus])⟩
  case round =>
    obtain ⟨k, hk, rfl, A1, c1, rfl, hown, hf⟩ := hrel
    have hm := minus_le (xs.take k) ys
    have hm2 : (xs.take k).length ≤ k := by simp; omega
    by_cases hlt : k < xs.length
    · obtain ⟨b1, o1, x, rfl, hx, hc1⟩ := (ha.fr0 hf).at_ hlt
      simp only [List.length_map] at hown
      by_cases hm : x ∈ ys
      · have hd : decide (x ∈ ys) = true := by simpa using hm
        go_wp2_with (go_at_call 69; refine (Has_any _ _ _ _ _ (hb.fr0 hf)).mono ?_; rintro e w' ⟨rfl, n, rfl⟩)
        go_roundw
        case rel => exact ⟨k + 1, by omega, by go_num, Gath.same (hf.drewN n) (own_drewN hown _) (by rw [minus_hit hx hm])⟩
        case measure => simp [intOf]; omega
      · have hd : decide (x ∈ ys) = false := by simpa using hm
        go_wp2_with (first
          | (at_builtin
             refine wpList_append_rd rfl (.tmp 20) (.tmp 25) _ rfl elemInts (.slice A1 (minus (List.take k xs) ys).length c1) _ rfl (own_drewN (hown.alloc _) _) _ _ [x] (.int .i64) rfl ((Rd.one _ _ _ _).drewN _) one_i64 (by simp; omega) (by simp; have := hf.size; omega) ?_
             intro A2 c2 w2 hown2 hg2 hat2)
          | (go_at_call 69; refine (Has_any _ _ _ _ _ (hb.fr0 hf)).mono ?_; rintro e w' ⟨rfl, n, rfl⟩))
        go_roundw
        case rel => exact ⟨k + 1, by omega, by go_num, Gath.snoc ((hf.alloc _).drewN n) (own_drewN (hown.alloc _) _) hg2 hown2 (by rw [minus_miss hx hm]; simp)⟩
        case measure => simp [intOf]; omega
    · go_wp2
      go_ret
      exact Gath.ret hf hown (by rw [List.take_of_length_le (by omega)])
set_option maxHeartbeats 800000 in
theorem without_any (A B : Option Addr) (ca cb : Nat) (xs ys : List Int) (w : World) (ha : Rd w (.int .i64) A ca xs) (hb : Rd w (.int .i64) B cb ys) (hlen : xs.length ≤ 1000000) :
    Calls Tryd.prog 67 #[.slice A xs.length ca, .slice B ys.length cb] w (RetOwn w 3 ((minus xs ys).map (.int .i64))) := by
  go_enter Tryd.func67, Tryd.ntmps67
  go_wp2_with (at_make; refine wpList_make0 rfl _ _ _ rfl elemInts xs.length rfl rfl (by omega) ?_; intro w0 hown0 hg0)
  go_loopw [5, 13] (fun v i wr => ∃ k : Nat, k ≤ xs.length ∧ i = .int .i64 k ∧ Gath w 3 ((minus (xs.take k) ys).map (.int .i64)) v wr) (fun _ i _ => xs.length - (intOf i).toNat)
  case atStart => exact ⟨0, Nat.zero_le _, rfl, Gath.made (Fr.refl _ _) hown0 hg0 (by simp [minus])⟩
  case round =>
    clear hown0 hg0
    obtain ⟨k, hk, rfl, A1, c1, rfl, hown, hf⟩ := hrel
    have hm := minus_le (xs.take k) ys
    have hm2 : (xs.take k).length ≤ k := by simp; omega
    by_cases hlt : k < xs.length
    · obtain ⟨b1, o1, x, rfl, hx, hc1⟩ := (ha.fr0 hf).at_ hlt
      simp only [List.length_map] at hown
      by_cases hm : x ∈ ys
      · have hd : decide (x ∈ ys) = true := by simpa using hm
        go_wp2_with (go_at_call 102; refine (has_any _ _ _ _ _ (hb.fr0 hf)).mono ?_; rintro e w' ⟨rfl, n, rfl⟩)
        go_roundw
        case rel => exact ⟨k + 1, by omega, by go_num, Gath.same (hf.drewN n) (own_drewN hown _) (by rw [minus_hit hx hm])⟩
        case measure => simp [intOf]; omega
      · have hd : decide (x ∈ ys) = false := by simpa using hm
        go_wp2_with (first
          | (at_builtin
             refine wpList_append_rd rfl (.tmp 21) (.tmp 23) _ rfl elemInts (.slice A1 (minus (List.take k xs) ys).length c1) _ rfl (own_drewN (hown.alloc _) _) _ _ [x] (.int .i64) rfl ((Rd.one _ _ _ _).drewN _) one_i64 (by simp; omega) (by simp; have := hf.size; omega) ?_
             intro A2 c2 w2 hown2 hg2 hat2)
          | (go_at_call 102; refine (has_any _ _ _ _ _ (hb.fr0 hf)).mono ?_; rintro e w' ⟨rfl, n, rfl⟩))
        go_roundw
        case rel => exact ⟨k + 1, by omega, by go_num, Gath.snoc ((hf.alloc _).drewN n) (own_drewN (hown.alloc _) _) hg2 hown2 (by rw [minus_miss hx hm]; simp)⟩
        case measure => simp [intOf]; omega
    · go_wp2
      go_ret
      exact Gath.ret hf hown (by rw [List.take_of_length_le (by omega)])

set_option maxHeartbeats 400000 in
theorem fresh_any (A : Option Addr) (ca : Nat) (xs : List Int) (w : World) (ha : Rd w (.int .i64) A ca xs) (hlen : xs.length ≤ 1000000) :
    Calls Tryd.prog 61 #[.slice A xs.length ca] w (RetOwn w 3 (xs.map (.int .i64))) := by
  go_enter Tryd.func61, Tryd.ntmps61
  go_wp2_with (first
    | (at_make; refine wpList_make0 rfl _ _ _ rfl elemInts xs.length rfl rfl (by omega) ?_; intro w0 hown0 hg0)
    | (at_builtin
       refine wpList_append_rd rfl (.tmp 5) (.tmp 6) _ rfl elemInts _ _ rfl hown0 _ _ xs (.int .i64) rfl (ha.fr0 ((Fr.refl _ _).grown hg0 (by simp))) one_i64 (by omega) hg0.size ?_
       intro A2 c2 w2 hown2 hg2 hat2))
  go_ret
  exact Gath.ret (((Fr.refl _ _).grown hg0 (by simp)).app hown0 (Nat.le_refl _) hg2) (by simpa using hown2) rfl

end Go.Proofs.YtjpbmbonccenfaaDoor

/- The reference's search that is repeated: play. -/
namespace Go.Proofs.YtjpbmbonccenfaaDoor
open Go.RowKit
set_option linter.unusedVariables false

/-- Block bp is a play: the answers, how many were used, stopped or not, what is wanted. -/
structure Play (w : World) (bp : Nat) (ans : List Int) (used : Nat) (S T : Value) (stop : Bool) (want : List Int) : Prop where
  ex : ∃ A c B d, Blk w bp 108 #[.slice A ans.length c, .int .i64 used, S, T, .bool stop, .slice B want.length d] ∧
    Rd w (.int .u8) A c ans ∧ (0 < ans.length → ∀ a, A = some a → a.block ≠ bp) ∧ Rd w (.int .i64) B d want ∧ (0 < want.length → ∀ a, B = some a → a.block ≠ bp)

theorem Play.fr {w w' : World} {bp used : Nat} {ans want : List Int} {X Y : Value} {stop : Bool} (h : Play w bp ans used X Y stop want) (hf : Fr [] w w') : Play w' bp ans used X Y stop want := by
  obtain ⟨A, c, B, d, hh, ha, hna, hb, hnb⟩ := h.ex
  exact ⟨A, c, B, d, hh.fr hf (by simp), ha.fr0 hf, hna, hb.fr0 hf, hnb⟩
theorem Play.lt {w : World} {bp used : Nat} {ans want : List Int} {X Y : Value} {stop : Bool} (h : Play w bp ans used X Y stop want) : bp < w.heap.size := by
  obtain ⟨A, c, B, d, hh, _⟩ := h.ex
  exact hh.lt

/-- begin: a new play; are there few enough answers? -/
def BeginPost (w : World) (ans : List Int) (e : Ending) (w' : World) : Prop :=
  e = .returned (.tuple #[.pointer (some ⟨w.heap.size, 0, none⟩), .bool (decide (ans.length ≤ 4096))]) ∧ Fr [] w w' ∧ Play w' w.heap.size ans 0 (.slice none 0 0) (.slice none 0 0) false []

theorem begin_any (A : Option Addr) (c : Nat) (ans : List Int) (w : World) (ha : Rd w (.int .u8) A c ans) :
    Calls Tryd.prog 76 #[.slice A ans.length c] w (BeginPost w ans) := by
  go_enter Tryd.func76, Tryd.ntmps76
  go_wp2
  go_ret2
  refine ⟨?_, (Fr.refl _ _).alloc _, A, c, none, 0, heap_alloc_new _ _, ha.alloc _, fun h0 a he => ?_, Rd.nil_ _ _, by simp⟩
  · have : decide ((ans.length : Int) ≤ 4096) = decide (ans.length ≤ 4096) := by rw [decide_eq_decide]; omega
    simp [this]
  · have := ha.lt h0 a he
    omega

/-- next where an answer is left. -/
def NextPost (w : World) (bp : Nat) (ans : List Int) (used : Nat) (S T : Value) (a : Int) (e : Ending) (w' : World) : Prop :=
  e = .returned (.int .u8 (told a)) ∧ Fr [bp] w w' ∧ Play w' bp ans (used + 1) S T false []
/-- next where none is left. -/
def StopPost (w : World) (bp : Nat) (ans : List Int) (used : Nat) (S T : Value) (want : List Int) (e : Ending) (w' : World) : Prop :=
  e = .returned (.int .u8 0) ∧ Fr [bp] w w' ∧ Play w' bp ans used S T true want

set_option maxHeartbeats 800000 in
theorem next_some (bp : Nat) (ans : List Int) (used : Nat) (S T : Value) (C : Value) (a : Int) (w : World) (h : Play w bp ans used S T false []) (ha : ans[used]? = some a) :
    Calls Tryd.prog 105 #[.pointer (some ⟨bp, 0, none⟩), C] w (NextPost w bp ans used S T a) := by
  obtain ⟨A, c, B, d, hh, hr, hna, hb, hnb⟩ := h.ex
  have hu : used < ans.length := (List.getElem?_eq_some_iff.1 ha).1
  have hbd := hr.bound
  obtain ⟨b1, o1, x, rfl, hx, hc⟩ := hr.at_ hu
  obtain rfl : a = x := by have := ha.symm.trans hx.out; simpa using this
  clear ha
  have c0 : w.cell? ⟨bp, 0, none⟩ = some (.slice (some ⟨b1, o1, none⟩) ans.length c) := hh.cell 0 rfl
  have c1 : w.cell? ⟨bp, 1, none⟩ = some (.int .i64 used) := hh.cell 1 rfl
  have f1 : w.frozen? ⟨bp, 1, none⟩ = false := hh.frozen 1
  have hne := hna (by omega) _ rfl
  have HH := Lib.hid hh
  clear hh
  go_enter Tryd.func105, Tryd.ntmps105
  go_wp2
  go_quiet (fail)
  go_wp2
  go_quiet ((go_at_call 115; first | exact quiet_of (told_any _ _) | exact quiet_add (told_any _ _)))
  go_wp2
  go_ret
  refine ⟨rfl, (by repeat (first | exact Fr.refl _ _ | assumption | apply Fr.drewN | apply Fr.drew | apply Fr.alloc | refine Fr.setCell ?_ (by simp) _)), ?_⟩
  exact ⟨_, c, B, d, ((HH.out.set_ 1 _).drewN _).drewN _, ((hr.setCell1 hne _).drewN _).drewN _, hna, ((hb.setCell hnb _).drewN _).drewN _, hnb⟩

set_option maxHeartbeats 800000 in
theorem next_none (bp : Nat) (ans : List Int) (used : Nat) (S T : Value) (C : Option Addr) (cc : Nat) (cs : List Int) (w : World) (h : Play w bp ans used S T false []) (hu : ans.length ≤ used)
    (hC : Rd w (.int .i64) C cc cs) (hlen : cs.length ≤ 1000000) (hCn : 0 < cs.length → ∀ a, C = some a → a.block ≠ bp) :
    Calls Tryd.prog 105 #[.pointer (some ⟨bp, 0, none⟩), .slice C cs.length cc] w (StopPost w bp ans used S T cs) := by
  obtain ⟨A, c, B, d, hh, hr, hna, hb, hnb⟩ := h.ex
  have hbd := hr.bound
  have c0 : w.cell? ⟨bp, 0, none⟩ = some (.slice A ans.length c) := hh.cell 0 rfl
  have c1 : w.cell? ⟨bp, 1, none⟩ = some (.int .i64 used) := hh.cell 1 rfl
  have c4 : w.cell? ⟨bp, 4, none⟩ = some (.bool false) := hh.cell 4 rfl
  have f4 : w.frozen? ⟨bp, 4, none⟩ = false := hh.frozen 4
  have hlt := h.lt
  have HH := Lib.hid hh
  clear hh
  go_enter Tryd.func105, Tryd.ntmps105
  go_wp2
  go_quiet (fail)
  go_wp2_with (at_builtin; refine wpList_append_rd rfl (.tmp 19) (.tmp 20) _ rfl elemInts _ _ rfl (own_drewN (own_empty _ _ w.heap.size (by simp)) _) _ _ cs (.int .i64) rfl (((hC.setCell (by simpa using hCn) _).alloc _).drewN _) one_i64 (by omega) (by simp) ?_; intro A2 c2 w2 hown2 hg2 hat2; have HB := Lib.hid ((((HH.out.set_ 4 (.bool true)).alloc _).drewN _).grown hg2 (some_ne_of_lt hlt rfl)); have c5 := HB.out.cell 5 rfl; have f5 := HB.out.frozen 5)
  go_ret
  have hw2 := ((((Fr.refl [bp] w).setCell (.inl (by simp)) _).alloc _).drewN _).app (own_drewN (own_empty _ _ w.heap.size (by simp)) _) (Nat.le_refl _) hg2
  refine ⟨rfl, hw2.setCell (.inl (by simp)) _, A, c, A2, c2, HB.out.set_ 5 _, ?_, hna, ?_, fun _ => own_apart hown2 hlt⟩
  · exact (hr.fr hw2 (fun h0 a ha => by simpa using hna h0 a ha)).setCell hna _
  · exact (own_rd hown2 (by simp) rfl).setCell (fun _ => own_apart hown2 hlt) _
end Go.Proofs.YtjpbmbonccenfaaDoor

/- What a search returns: the reference's end. -/
namespace Go.Proofs.YtjpbmbonccenfaaDoor
open Go.RowKit
set_option linter.unusedVariables false

/-- How far a search has come. -/
structure Qst where
  done : Bool
  ask : List Int
  kept : List Int
  pass : List Int
deriving DecidableEq

/-- The value v reads in w as a quest. -/
def QstIs (w : World) (v : Value) (q : Qst) : Prop :=
  ∃ A a B b C c, v = .agg #[.bool q.done, .slice A q.ask.length a, .slice B q.kept.length b, .slice C q.pass.length c] ∧ Rd w (.int .i64) A a q.ask ∧ Rd w (.int .i64) B b q.kept ∧ Rd w (.int .i64) C c q.pass
theorem QstIs.fr0 {w w' : World} {v : Value} {q : Qst} (h : QstIs w v q) (hf : Fr [] w w') : QstIs w' v q := by
  obtain ⟨A, a, B, b, C, c, hv, h1, h2, h3⟩ := h
  exact ⟨A, a, B, b, C, c, hv, h1.fr0 hf, h2.fr0 hf, h3.fr0 hf⟩

/-- The call returns a quest and an error. -/
def RetQst (w : World) (r : Qst × Int) (e : Ending) (w' : World) : Prop :=
  ∃ v, e = .returned (.tuple #[v, .int .i64 r.2]) ∧ Fr [] w w' ∧ QstIs w' v r.1

/-- The same, the slices in blocks from B on. -/
def RetQstF (B : Nat) (w : World) (r : Qst × Int) (e : Ending) (w' : World) : Prop :=
  ∃ v, e = .returned (.tuple #[v, .int .i64 r.2]) ∧ Fr [] w w' ∧ ∃ A a B1 b C c, v = .agg #[.bool r.1.done, .slice A r.1.ask.length a, .slice B1 r.1.kept.length b, .slice C r.1.pass.length c] ∧
    (Rd w' (.int .i64) A a r.1.ask ∧ Nw B A) ∧ (Rd w' (.int .i64) B1 b r.1.kept ∧ Nw B B1) ∧ Rd w' (.int .i64) C c r.1.pass ∧ Nw B C
theorem RetQstF.q {B : Nat} {w w' : World} {r : Qst × Int} {e : Ending} (h : RetQstF B w r e w') : RetQst w r e w' := by
  obtain ⟨v, he, hf, A, a, B1, b, C, c, hv, h1, h2, h3⟩ := h
  exact ⟨v, he, hf, A, a, B1, b, C, c, hv, h1.1, h2.1, h3.1⟩
def qNone : Qst := ⟨false, [], [], []⟩
/-- What end returns. -/
def endOf (stop : Bool) (want : List Int) (e : Int) (left : Bool) (kept pass : List Int) : Qst × Int :=
  if stop then (⟨false, want, [], []⟩, 0) else if e ≠ 0 then (qNone, e) else if left then (qNone, 8) else (⟨true, [], kept, pass⟩, 0)

set_option maxHeartbeats 1600000 in
theorem end_any (bp : Nat) (ans : List Int) (used : Nat) (S T : Value) (stop : Bool) (want : List Int) (er : Int) (K P : Option Addr) (ck cp : Nat) (kept pass : List Int) (w : World)
    (h : Play w bp ans used S T stop want) (hk : Rd w (.int .i64) K ck kept) (hp : Rd w (.int .i64) P cp pass) :
    Calls Tryd.prog 78 #[.pointer (some ⟨bp, 0, none⟩), .int .i64 er, .slice K kept.length ck, .slice P pass.length cp] w (RetQst w (endOf stop want er (decide (used < ans.length)) kept pass)) := by
  obtain ⟨A, c, B, d, hh, hr, hna, hb, hnb⟩ := h.ex
  have hbd := hr.bound
  have c0 := hh.cell 0 rfl
  have c1 := hh.cell 1 rfl
  have c4 := hh.cell 4 rfl
  have c5 := hh.cell 5 rfl
  have hlt := h.lt
  clear hh
  have hn : ∀ W : World, Rd W (.int .i64) none 0 ([] : List Int) := fun W => Rd.nil_ W _
  cases stop
  · by_cases he : er = 0
    · subst he
      by_cases hu : used < ans.length
      · go_enter Tryd.func78, Tryd.ntmps78
        go_wp2
        go_quiet (fail)
        go_wp2
        refine bodyPost_ret (v := .tuple #[.agg #[.bool false, .slice none 0 0, .slice none 0 0, .slice none 0 0], .int .i64 8]) (by simp [results, Tryd.results78, go_sem]) rfl ?_
        rw [show endOf false want 0 (decide (used < ans.length)) kept pass = (qNone, 8) by simp [endOf, hu]]
        refine ⟨_, rfl, ((Fr.refl _ _).alloc _).drewN _, none, 0, none, 0, none, 0, rfl, hn _, hn _, hn _⟩
      · go_enter Tryd.func78, Tryd.ntmps78
        go_wp2
        go_quiet (fail)
        go_wp2
        refine bodyPost_ret (v := .tuple #[.agg #[.bool true, .slice none 0 0, .slice K kept.length ck, .slice P pass.length cp], .int .i64 0]) (by simp [results, Tryd.results78, go_sem]) rfl ?_
        rw [show endOf false want 0 (decide (used < ans.length)) kept pass = (⟨true, [], kept, pass⟩, 0) by simp [endOf, hu]]
        have hf := ((Fr.refl [] w).alloc (.cells #[.bool true, .slice none 0 0, .slice K kept.length ck, .slice P pass.length cp] 34)).drewN nq
        refine ⟨_, rfl, hf, none, 0, K, ck, P, cp, rfl, hn _, hk.fr0 hf, hp.fr0 hf⟩
    · have heb : (er != 0) = true := by simpa using he
      have HE := Lib.hid he
      clear he
      go_enter Tryd.func78, Tryd.ntmps78
      go_wp2
      refine bodyPost_ret (v := .tuple #[.agg #[.bool false, .slice none 0 0, .slice none 0 0, .slice none 0 0], .int .i64 er]) (by simp [results, Tryd.results78, go_sem]) rfl ?_
      rw [show endOf false want er (decide (used < ans.length)) kept pass = (qNone, er) by simp [endOf, HE.out]]
      refine ⟨_, rfl, (Fr.refl _ _).alloc _, none, 0, none, 0, none, 0, rfl, hn _, hn _, hn _⟩
  · go_enter Tryd.func78, Tryd.ntmps78
    go_wp2
    refine bodyPost_ret (v := .tuple #[.agg #[.bool false, .slice B want.length d, .slice none 0 0, .slice none 0 0], .int .i64 0]) (by simp [results, Tryd.results78, go_sem]) rfl ?_
    rw [show endOf true want er (decide (used < ans.length)) kept pass = (⟨false, want, [], []⟩, 0) by simp [endOf]]
    refine ⟨_, rfl, (Fr.refl _ _).alloc _, B, d, none, 0, none, 0, rfl, hb.alloc _, hn _, hn _⟩
theorem Blk.four {w : World} {g : Nat} {t : TypeId} {x0 x1 x2 x3 : Value} (h : Blk w g t #[x0, x1, x2, x3]) (a0 a1 a2 a3 : Value) :
    Blk ((((w.setCell ⟨g, 0, none⟩ a0).setCell ⟨g, 1, none⟩ a1).setCell ⟨g, 2, none⟩ a2).setCell ⟨g, 3, none⟩ a3) g t #[a0, a1, a2, a3] :=
  (((h.set_ 0 a0).set_ 1 a1).set_ 2 a2).set_ 3 a3
theorem fr_four {S : List Nat} {w w1 : World} (h : Fr S w w1) {g : Nat} (hg : g ∈ S ∨ w.heap.size ≤ g) (a0 a1 a2 a3 : Value) :
    Fr S w ((((w1.setCell ⟨g, 0, none⟩ a0).setCell ⟨g, 1, none⟩ a1).setCell ⟨g, 2, none⟩ a2).setCell ⟨g, 3, none⟩ a3) :=
  (((h.setCell (p := ⟨g, 0, none⟩) hg _).setCell (p := ⟨g, 1, none⟩) hg _).setCell (p := ⟨g, 2, none⟩) hg _).setCell (p := ⟨g, 3, none⟩) hg _
theorem Rd.four {α : Type} {w : World} {enc : α → Value} {A : Option Addr} {c : Nat} {xs : List α} (h : Rd w enc A c xs) {g : Nat} (hn : 0 < xs.length → ∀ a, A = some a → a.block ≠ g) (a0 a1 a2 a3 : Value) :
    Rd ((((w.setCell ⟨g, 0, none⟩ a0).setCell ⟨g, 1, none⟩ a1).setCell ⟨g, 2, none⟩ a2).setCell ⟨g, 3, none⟩ a3) enc A c xs :=
  (((h.setCell (p := ⟨g, 0, none⟩) hn _).setCell (p := ⟨g, 1, none⟩) hn _).setCell (p := ⟨g, 2, none⟩) hn _).setCell (p := ⟨g, 3, none⟩) hn _

/-- A quest in a result's cell, and an error in a slot. -/
theorem results_qst {fn : Func} {p t : Tmp} (h : fn.results = #[.cell p 34, .tmp t]) (tmps : Array Value) (w : World) (g : Nat) {a0 a1 a2 a3 : Value} (hp : tmps.getD p undef = .pointer (some ⟨g, 0, none⟩)) (hb : Blk w g 34 #[a0, a1, a2, a3]) :
    (results fn tmps).run Tryd.prog w = .ok (.tuple #[.agg #[a0, a1, a2, a3], tmps.getD t undef]) w := by
  have c0 := hb.cell 0 rfl
  have c1 := hb.cell 1 rfl
  have c2 := hb.cell 2 rfl
  have c3 := hb.cell 3 rfl
  simp only [Array.getD_eq_getD_getElem?] at hp
  simp [results, h, go_sem, hp, c0, c1, c2, c3]

/-- Numbers do not lie in a result's cell. -/
theorem Rd.apartQ {w : World} {k : IntKind} {A : Option Addr} {c g : Nat} {t : TypeId} {xs : List Int} {b0 : Bool} {A1 A2 A3 : Option Addr} {n1 n2 n3 m1 m2 m3 : Nat} (h : Rd w (.int k) A c xs)
    (hb : Blk w g t #[.bool b0, .slice A1 n1 m1, .slice A2 n2 m2, .slice A3 n3 m3]) (h0 : 0 < xs.length) (a : Addr) (ha : A = some a) : a.block ≠ g := by
  obtain ⟨b, off, rfl, hc⟩ := h.at0 h0
  injection ha with ha
  subst ha
  rintro rfl
  have h1 := hc 0 xs[0] (by simp)
  have h2 := cell_of_row w b (off + 0) _ t (0, 0) hb
  rw [h2] at h1
  match off, h1 with
  | 0, h1 => simp at h1
  | 1, h1 => simp at h1
  | 2, h1 => simp at h1
  | 3, h1 => simp at h1
  | n + 4, h1 => simp at h1

theorem qstF_ret {B0 : Nat} {w w3 : World} {g : Nat} {r : Qst × Int} {A a B b C c} {b0 : Bool} {A1 A2 A3 : Option Addr} {n1 n2 n3 m1 m2 m3 : Nat} (hg : w.heap.size ≤ g) (hf : Fr [] w w3)
    (hb : Blk w3 g 34 #[.bool b0, .slice A1 n1 m1, .slice A2 n2 m2, .slice A3 n3 m3]) (h1 : Rd w3 (.int .i64) A a r.1.ask ∧ Nw B0 A) (h2 : Rd w3 (.int .i64) B b r.1.kept ∧ Nw B0 B) (h3 : Rd w3 (.int .i64) C c r.1.pass ∧ Nw B0 C) :
    RetQstF B0 w r (.returned (.tuple #[.agg #[.bool r.1.done, .slice A r.1.ask.length a, .slice B r.1.kept.length b, .slice C r.1.pass.length c], .int .i64 r.2]))
      ((((w3.setCell ⟨g, 0, none⟩ (.bool r.1.done)).setCell ⟨g, 1, none⟩ (.slice A r.1.ask.length a)).setCell ⟨g, 2, none⟩ (.slice B r.1.kept.length b)).setCell ⟨g, 3, none⟩ (.slice C r.1.pass.length c)) :=
  ⟨_, rfl, fr_four hf (.inr hg) _ _ _ _, A, a, B, b, C, c, rfl, ⟨h1.1.four (h1.1.apartQ hb) _ _ _ _, h1.2⟩, ⟨h2.1.four (h2.1.apartQ hb) _ _ _ _, h2.2⟩, h3.1.four (h3.1.apartQ hb) _ _ _ _, h3.2⟩

theorem qst_ret {w w3 : World} {g : Nat} {r : Qst × Int} {A a B b C c} {b0 : Bool} {A1 A2 A3 : Option Addr} {n1 n2 n3 m1 m2 m3 : Nat} (hg : w.heap.size ≤ g) (hf : Fr [] w w3)
    (hb : Blk w3 g 34 #[.bool b0, .slice A1 n1 m1, .slice A2 n2 m2, .slice A3 n3 m3]) (h1 : Rd w3 (.int .i64) A a r.1.ask) (h2 : Rd w3 (.int .i64) B b r.1.kept) (h3 : Rd w3 (.int .i64) C c r.1.pass) :
    RetQst w r (.returned (.tuple #[.agg #[.bool r.1.done, .slice A r.1.ask.length a, .slice B r.1.kept.length b, .slice C r.1.pass.length c], .int .i64 r.2]))
      ((((w3.setCell ⟨g, 0, none⟩ (.bool r.1.done)).setCell ⟨g, 1, none⟩ (.slice A r.1.ask.length a)).setCell ⟨g, 2, none⟩ (.slice B r.1.kept.length b)).setCell ⟨g, 3, none⟩ (.slice C r.1.pass.length c)) :=
  ⟨_, rfl, fr_four hf (.inr hg) _ _ _ _, A, a, B, b, C, c, rfl, h1.four (h1.apartQ hb) _ _ _ _, h2.four (h2.apartQ hb) _ _ _ _, h3.four (h3.apartQ hb) _ _ _ _⟩

end Go.Proofs.YtjpbmbonccenfaaDoor

/- The reference's verdict on a version. -/
namespace Go.Proofs.YtjpbmbonccenfaaDoor
open Go.RowKit
set_option linter.unusedVariables false

/-- The verdict on a version that is asked up to so many times, and how many answers are then used; none: an answer lacks. -/
def ver (ans : List Int) : Nat → Nat → Int → Option (Int × Nat)
  | 0, used, out => some (out, used)
  | t + 1, used, out => match ans[used]? with
    | none => none
    | some a => if told a = 2 then some (2, used + 1) else ver ans t (used + 1) (if told a = 1 then 1 else out)

/-- How often a version is asked. -/
def timesOf (times : Int) : Int := min (max times 1) 9

def VerPost (w : World) (bp : Nat) (ans : List Int) (S T : Value) (v : Int) (r : Option (Int × Nat)) (e : Ending) (w' : World) : Prop :=
  match r with
  | some (x, u) => e = .returned (.int .u8 x) ∧ Fr [bp] w w' ∧ Play w' bp ans u S T false []
  | none => ∃ u, e = .returned (.int .u8 0) ∧ Fr [bp] w w' ∧ Play w' bp ans u S T true [v]

theorem ver_stop {ans : List Int} {t u : Nat} {o : Int} (ht : 0 < t) (h : ans[u]? = none) : ver ans t u o = none := by
  obtain ⟨t, rfl⟩ : ∃ n, t = n + 1 := ⟨t - 1, by omega⟩
  simp [ver, h]
theorem ver_fail {ans : List Int} {t u : Nat} {o a : Int} (ht : 0 < t) (h : ans[u]? = some a) (h2 : told a = 2) : ver ans t u o = some (2, u + 1) := by
  obtain ⟨t, rfl⟩ : ∃ n, t = n + 1 := ⟨t - 1, by omega⟩
  simp [ver, h, h2]
theorem ver_on {ans : List Int} {t u : Nat} {o a : Int} (ht : 0 < t) (h : ans[u]? = some a) (h2 : ¬ told a = 2) : ver ans t u o = ver ans (t - 1) (u + 1) (if told a = 1 then 1 else o) := by
  obtain ⟨t, rfl⟩ : ∃ n, t = n + 1 := ⟨t - 1, by omega⟩
  simp [ver, h, h2]
theorem timesOf_le (t : Int) : 1 ≤ timesOf t ∧ timesOf t ≤ 9 := by unfold timesOf; omega

def VerStop (w : World) (bp : Nat) (ans : List Int) (S T : Value) (v : Int) (e : Ending) (w' : World) : Prop := ∃ u, e = .returned (.int .u8 0) ∧ Fr [bp] w w' ∧ Play w' bp ans u S T true [v]
def VerGot (w : World) (bp : Nat) (ans : List Int) (S T : Value) (x : Int) (u : Nat) (e : Ending) (w' : World) : Prop := e = .returned (.int .u8 x) ∧ Fr [bp] w w' ∧ Play w' bp ans u S T false []
end Go.Proofs.YtjpbmbonccenfaaDoor

/- The version between two others that is asked next: the reference's between. -/
namespace Go.Proofs.YtjpbmbonccenfaaDoor
open Go.RowKit
set_option linter.unusedVariables false

def betwAt (kn : Int → Bool) (low high m d : Int) : Option Int :=
  if low < m + d ∧ m + d < high ∧ kn (m + d) = false then some (m + d)
  else if low < m - d ∧ m - d < high ∧ kn (m - d) = false then some (m - d) else none
/-- from distance d on, so many more distances -/
def betwFrom (kn : Int → Bool) (low high m : Int) : Nat → Int → Int
  | 0, _ => -1
  | t + 1, d => match betwAt kn low high m d with
    | some x => x
    | none => betwFrom kn low high m t (d + 1)
/-- The first version near the middle that is not known; -1: there is none. -/
def betw (kn : Int → Bool) (low high : Int) : Int := betwFrom kn low high ((low + high) / 2) (high - low + 1).toNat 0

theorem betw_end {kn : Int → Bool} {low high m : Int} {t : Nat} {d : Int} (h : t = 0) : betwFrom kn low high m t d = -1 := by subst h; rfl
theorem betw_hit {kn : Int → Bool} {low high m : Int} {t : Nat} {d x : Int} (ht : 0 < t) (h : betwAt kn low high m d = some x) : betwFrom kn low high m t d = x := by
  obtain ⟨t, rfl⟩ : ∃ n, t = n + 1 := ⟨t - 1, by omega⟩
  simp [betwFrom, h]
theorem betw_miss {kn : Int → Bool} {low high m : Int} {t : Nat} {d : Int} (ht : 0 < t) (h : betwAt kn low high m d = none) : betwFrom kn low high m t d = betwFrom kn low high m (t - 1) (d + 1) := by
  obtain ⟨t, rfl⟩ : ∃ n, t = n + 1 := ⟨t - 1, by omega⟩
  simp [betwFrom, h]

/-- What is known, as a list of bools. -/
def Known (kn : Int → Bool) (bs : List Bool) : Prop := ∀ i : Nat, i < bs.length → bs[i]? = some (kn i)

theorem Known.at_ {kn : Int → Bool} {bs : List Bool} {w : World} {A : Option Addr} {c : Nat} (h : Known kn bs) (hr : Rd w .bool A c bs) {i : Int} (h0 : 0 ≤ i) (h1 : i < bs.length) :
    ∃ b off, A = some ⟨b, off, none⟩ ∧ w.cell? ⟨b, off + i.toNat, none⟩ = some (.bool (kn i)) := by
  obtain ⟨b, off, x, hA, hx, hc⟩ := hr.at_ (k := i.toNat) (by omega)
  have := h i.toNat (by omega)
  rw [hx.out] at this
  have hi : ((i.toNat : Nat) : Int) = i := by omega
  rw [hi] at this
  injection this with this
  subst this
  exact ⟨b, off, hA, hc⟩

end Go.Proofs.YtjpbmbonccenfaaDoor

/- The frame of the reference's searches: blocks that were there before, and blocks of other types than the play's own, stay. -/
namespace Go.Proofs.YtjpbmbonccenfaaDoor
open Go.RowKit
set_option linter.unusedVariables false

/-- A block of a play's own types. -/
def PlayTy (o : Obj) : Prop := ∃ cs e fz, o = .cells cs e fz ∧ (e = 22 ∨ e = 39 ∨ e = 108)
/-- A block of numbers. -/
def IntTy (w : World) (k : Nat) : Prop := ∃ cs fz, w.heap[k]? = some (.cells cs 3 fz)
theorem not_playTy_int (cs : Array Value) (fz : Nat × Nat) : ¬ PlayTy (.cells cs 3 fz) := by
  rintro ⟨cs', e, fz', h, he⟩
  injection h with h1 h2 h3
  subst h2
  revert he
  decide

structure FrP (B : Nat) (w w' : World) : Prop where
  os : w'.os = w.os
  tape : w'.tape = w.tape
  output : w'.output = w.output
  size : w.heap.size ≤ w'.heap.size
  block : ∀ k o, w.heap[k]? = some o → (k < B ∨ ¬ PlayTy o) → w'.heap[k]? = some o

section
variable {B : Nat} {a b c w w' : World} {S : List Nat}
theorem FrP.refl (B : Nat) (w : World) : FrP B w w := ⟨rfl, rfl, rfl, Nat.le_refl _, fun _ _ h _ => h⟩
theorem FrP.trans (h : FrP B a b) (k : FrP B b c) : FrP B a c :=
  ⟨k.os.trans h.os, k.tape.trans h.tape, k.output.trans h.output, Nat.le_trans h.size k.size, fun i o hi hn => k.block i o (h.block i o hi hn) hn⟩
theorem FrP.of_fr (h : Fr S w w') (hS : ∀ k ∈ S, B ≤ k ∧ ∀ o, w.heap[k]? = some o → PlayTy o) : FrP B w w' :=
  ⟨h.os, h.tape, h.output, h.size, fun k o hk hn => by
    have hm : k ∉ S := fun hm => by
      obtain ⟨h1, h2⟩ := hS k hm
      rcases hn with hn | hn
      · omega
      · exact hn (h2 o hk)
    exact h.heap hk hm⟩
theorem FrP.of_fr0 (h : Fr [] w w') : FrP B w w' := FrP.of_fr h (by simp)
theorem FrP.drewN (h : FrP B a w) (n : Nat) : FrP B a (w.drewN n) := ⟨h.os, h.tape, h.output, h.size, h.block⟩
theorem FrP.drew (h : FrP B a w) : FrP B a w.drew := ⟨h.os, h.tape, h.output, h.size, h.block⟩
theorem FrP.fr (h : FrP B w w') (hB : B = w.heap.size) : Fr [] w w' :=
  ⟨h.os, h.tape, h.output, h.size, fun k hk _ => by
    have := h.block k w.heap[k] (Array.getElem?_eq_getElem hk) (.inl (by omega))
    rw [this, Array.getElem?_eq_getElem hk]⟩
/-- A slice of numbers that stays: nil, or from before, or in a block of numbers. -/
def Stay (B : Nat) (w : World) (A : Option Addr) : Prop := ∀ x, A = some x → x.block < B ∨ IntTy w x.block
theorem IntTy.frp {k : Nat} (h : IntTy w k) (hf : FrP B w w') : IntTy w' k := by
  obtain ⟨cs, fz, hk⟩ := h
  exact ⟨cs, fz, hf.block k _ hk (.inr (not_playTy_int _ _))⟩
theorem Stay.frp {A : Option Addr} (h : Stay B w A) (hf : FrP B w w') : Stay B w' A := fun x hx => (h x hx).imp id fun hi => hi.frp hf
theorem Stay.none_ (B : Nat) (w : World) : Stay B w none := fun x hx => by cases hx
theorem Rd.frp {A : Option Addr} {c : Nat} {xs : List Int} (h : Rd w (.int .i64) A c xs) (hs : Stay B w A) (hf : FrP B w w') : Rd w' (.int .i64) A c xs :=
  ⟨h.le, h.cap, fun h0 => by
    obtain ⟨b, off, rfl, hc⟩ := h.at0 h0
    refine ⟨b, off, rfl, fun k x hx => ?_⟩
    refine (World.cell?_of_block ?_).trans (hc k x hx)
    show w'.heap[b]? = w.heap[b]?
    have hlt := World.block_lt_of_cell? w _ (hc k x hx)
    have hlt : b < w.heap.size := hlt
    rcases hs _ rfl with h1 | ⟨cs, fz, h1⟩
    · rw [hf.block b _ (Array.getElem?_eq_getElem hlt) (.inl h1), Array.getElem?_eq_getElem hlt]
    · rw [hf.block b _ h1 (.inr (not_playTy_int _ _)), h1]⟩
/-- What lies below B stays. -/
theorem FrP.below {α : Type} {enc : α → Value} {A : Option Addr} {c : Nat} {xs : List α} (h : Rd w enc A c xs) (hs : 0 < xs.length → ∀ x, A = some x → x.block < B) (hf : FrP B w w') : Rd w' enc A c xs :=
  ⟨h.le, h.cap, fun h0 => by
    obtain ⟨b, off, rfl, hc⟩ := h.at0 h0
    refine ⟨b, off, rfl, fun k x hx => ?_⟩
    refine (World.cell?_of_block ?_).trans (hc k x hx)
    show w'.heap[b]? = w.heap[b]?
    have hlt := World.block_lt_of_cell? w _ (hc k x hx)
    have hlt : b < w.heap.size := hlt
    rw [hf.block b _ (Array.getElem?_eq_getElem hlt) (.inl (hs h0 _ rfl)), Array.getElem?_eq_getElem hlt]⟩
theorem Stay.own {n m cc base size : Nat} {A : Option Addr} {xs : List Value} (h : w.ownsRow base 3 size (.slice A n cc) m xs) : Stay B w A := fun x hx => by
  subst hx
  rcases h.2 with ⟨he, _⟩ | ⟨g, cap, cur, he, _, hh, _⟩
  · cases he
  · injection he with e1
    injection e1 with e1
    subst e1
    exact .inr ⟨_, _, hh⟩
theorem FrP.blk {g : Nat} {t : TypeId} {cs : Array Value} (h : Blk w g t cs) (hf : FrP B w w') (ht : g < B ∨ t ≠ 22 ∧ t ≠ 39 ∧ t ≠ 108) : Blk w' g t cs :=
  hf.block g _ h (ht.imp id fun ⟨h1, h2, h3⟩ ⟨cs', e, fz, he, hc⟩ => by
    injection he with e1 e2
    subst e2
    rcases hc with hc | hc | hc
    · exact h1 hc
    · exact h2 hc
    · exact h3 hc)
end
end Go.Proofs.YtjpbmbonccenfaaDoor

/- quest: what a search of sets returns, put together. -/
namespace Go.Proofs.YtjpbmbonccenfaaDoor
open Go.RowKit
set_option linter.unusedVariables false

def questOf (ask kept : List Int) (done : Bool) (e : Int) : Qst × Int :=
  if e ≠ 0 then (qNone, e) else if done = false then (⟨false, ask, [], []⟩, 0) else (⟨true, [], kept, []⟩, 0)

set_option maxHeartbeats 1600000 in
theorem quest_any (A B : Option Addr) (a b : Nat) (ask kept : List Int) (done : Bool) (er : Int) (w : World) (ha : Rd w (.int .i64) A a ask) (hb : Rd w (.int .i64) B b kept) (hl : kept.length ≤ 1000000) (B0 : Nat) (hB0 : B0 ≤ w.heap.size) (hnA : Nw B0 A) :
    Calls Tryd.prog 68 #[.slice A ask.length a, .slice B kept.length b, .bool done, .int .i64 er] w (RetQstF B0 w (questOf ask kept done er)) := by
  have hn : ∀ W : World, Rd W (.int .i64) none 0 ([] : List Int) ∧ Nw B0 none := fun W => ⟨Rd.nil_ W _, Nw.none_ _⟩
  by_cases he : er = 0
  · subst he
    cases done
    · go_enter Tryd.func68, Tryd.ntmps68
      go_wp2
      refine bodyPost_ret (v := .tuple #[.agg #[.bool false, .slice A ask.length a, .slice none 0 0, .slice none 0 0], .int .i64 0]) (by simp [results, Tryd.results68, go_sem]) rfl ?_
      rw [show questOf ask kept false 0 = (⟨false, ask, [], []⟩, 0) by simp [questOf]]
      exact ⟨_, rfl, (by repeat (first | exact Fr.refl _ _ | assumption | apply Fr.drewN | apply Fr.drew | apply Fr.alloc | refine Fr.setCell ?_ (by simp) _)), A, a, none, 0, none, 0, rfl, ⟨ha.alloc _, hnA⟩, hn _, hn _⟩
    · go_enter Tryd.func68, Tryd.ntmps68
      have hB1 := Blk.new w 34 #[.bool false, .slice none 0 0, .slice none 0 0, .slice none 0 0] _ rfl
      go_wp2_with fail
      refine (fresh_any B b kept _ (hb.alloc _) hl).mono ?_
      simp only [RetOwn, List.length_map]
      rintro e w2 ⟨A2, c2, rfl, hf2, hown2⟩
      have hB2 := hB1.fr hf2 (by simp)
      have qc0 := hB2.cell 0 rfl
      have qc1 := hB2.cell 1 rfl
      have qc2 := hB2.cell 2 rfl
      have qc3 := hB2.cell 3 rfl
      have qd0 := hB2.frozen 0
      have qd1 := hB2.frozen 1
      have qd2 := hB2.frozen 2
      have qd3 := hB2.frozen 3
      go_wp2
      refine bodyPost_ret (results_qst rfl _ _ w.heap.size rfl (hB2.four _ _ _ _)) rfl ?_
      rw [show questOf ask kept true 0 = (⟨true, [], kept, []⟩, 0) by simp [questOf]]
      exact qstF_ret (r := (⟨true, [], kept, []⟩, 0)) (Nat.le_refl _) (((Fr.refl _ _).alloc _).trans hf2) hB2 (hn _) ⟨own_rd hown2 rfl rfl, (Nw.own hown2).mono (by simp; omega)⟩ (hn _)
  · have heb : (er != 0) = true := by simpa using he
    have HE := Lib.hid he
    clear he
    go_enter Tryd.func68, Tryd.ntmps68
    go_wp2
    refine bodyPost_ret (v := .tuple #[.agg #[.bool false, .slice none 0 0, .slice none 0 0, .slice none 0 0], .int .i64 er]) (by simp [results, Tryd.results68, go_sem]) rfl ?_
    rw [show questOf ask kept done er = (qNone, er) by have := HE.out; simp [questOf, this]]
    exact ⟨_, rfl, (by repeat (first | exact Fr.refl _ _ | assumption | apply Fr.drewN | apply Fr.drew | apply Fr.alloc | refine Fr.setCell ?_ (by simp) _)), none, 0, none, 0, none, 0, rfl, hn _, hn _, hn _⟩
end Go.Proofs.YtjpbmbonccenfaaDoor

/- Are two quests equal? -/
namespace Go.Proofs.YtjpbmbonccenfaaDoor
open Go.RowKit
set_option linter.unusedVariables false

set_option maxHeartbeats 3200000 in
theorem SameQuest_any (p q : Qst) (A B C A' B' C' : Option Addr) (a b c a' b' c' : Nat) (w : World) (h1 : Rd w (.int .i64) A a p.ask) (h2 : Rd w (.int .i64) B b p.kept) (h3 : Rd w (.int .i64) C c p.pass)
    (k1 : Rd w (.int .i64) A' a' q.ask) (k2 : Rd w (.int .i64) B' b' q.kept) (k3 : Rd w (.int .i64) C' c' q.pass) :
    Calls Tryd.prog 27 #[.agg #[.bool p.done, .slice A p.ask.length a, .slice B p.kept.length b, .slice C p.pass.length c], .agg #[.bool q.done, .slice A' q.ask.length a', .slice B' q.kept.length b', .slice C' q.pass.length c']] w (RetV w (.bool (decide (p = q)))) := by
  have hf : ∀ o1 o2 : Obj, Fr [] w ((w.alloc o1).alloc o2) := fun o1 o2 => ((Fr.refl _ _).alloc _).alloc _
  by_cases e0 : p.done = q.done
  · have d0 : (p.done == q.done) = true := by simp [e0]
    have E0 := Lib.hid e0
    clear e0
    by_cases e1 : p.ask = q.ask
    · have d1 : decide (p.ask = q.ask) = true := by simp [e1]
      have E1 := Lib.hid e1
      clear e1
      by_cases e2 : p.kept = q.kept
      · have d2 : decide (p.kept = q.kept) = true := by simp [e2]
        have E2 := Lib.hid e2
        clear e2
        go_enter Tryd.func27, Tryd.ntmps27
        go_wp2_with fail
        refine (Ints_any _ _ _ _ _ _ _ (h1.fr0 (by repeat (first | exact Fr.refl _ _ | apply Fr.drewN | apply Fr.alloc))) (k1.fr0 (by repeat (first | exact Fr.refl _ _ | apply Fr.drewN | apply Fr.alloc)))).mono ?_
        rintro e w1 ⟨rfl, n1, rfl⟩
        go_wp2_with fail
        refine (Ints_any _ _ _ _ _ _ _ (h2.fr0 (by repeat (first | exact Fr.refl _ _ | apply Fr.drewN | apply Fr.alloc))) (k2.fr0 (by repeat (first | exact Fr.refl _ _ | apply Fr.drewN | apply Fr.alloc)))).mono ?_
        rintro e w2 ⟨rfl, n2, rfl⟩
        go_wp2_with fail
        refine (Ints_any _ _ _ _ _ _ _ (h3.fr0 (by repeat (first | exact Fr.refl _ _ | apply Fr.drewN | apply Fr.alloc))) (k3.fr0 (by repeat (first | exact Fr.refl _ _ | apply Fr.drewN | apply Fr.alloc)))).mono ?_
        rintro e w3 ⟨rfl, n3, rfl⟩
        go_wp2
        go_ret
        refine ⟨ret_bool ?_, by repeat (first | exact Fr.refl _ _ | apply Fr.drewN | apply Fr.alloc)⟩
        have := E0.out
        have h5 := E1.out
        have h6 := E2.out
        cases p; cases q; simp_all
      · have d2 : decide (p.kept = q.kept) = false := by simp [e2]
        have E2 := Lib.hid e2
        clear e2
        go_enter Tryd.func27, Tryd.ntmps27
        go_wp2_with fail
        refine (Ints_any _ _ _ _ _ _ _ (h1.fr0 (by repeat (first | exact Fr.refl _ _ | apply Fr.drewN | apply Fr.alloc))) (k1.fr0 (by repeat (first | exact Fr.refl _ _ | apply Fr.drewN | apply Fr.alloc)))).mono ?_
        rintro e w1 ⟨rfl, n1, rfl⟩
        go_wp2_with fail
        refine (Ints_any _ _ _ _ _ _ _ (h2.fr0 (by repeat (first | exact Fr.refl _ _ | apply Fr.drewN | apply Fr.alloc))) (k2.fr0 (by repeat (first | exact Fr.refl _ _ | apply Fr.drewN | apply Fr.alloc)))).mono ?_
        rintro e w2 ⟨rfl, n2, rfl⟩
        go_wp2
        go_ret
        refine ⟨ret_bool ?_, by repeat (first | exact Fr.refl _ _ | apply Fr.drewN | apply Fr.alloc)⟩
        have h6 := E2.out
        symm; simp; intro h; exact h6 (by rw [h])
    · have d1 : decide (p.ask = q.ask) = false := by simp [e1]
      have E1 := Lib.hid e1
      clear e1
      go_enter Tryd.func27, Tryd.ntmps27
      go_wp2_with fail
      refine (Ints_any _ _ _ _ _ _ _ (h1.fr0 (by repeat (first | exact Fr.refl _ _ | apply Fr.drewN | apply Fr.alloc))) (k1.fr0 (by repeat (first | exact Fr.refl _ _ | apply Fr.drewN | apply Fr.alloc)))).mono ?_
      rintro e w1 ⟨rfl, n1, rfl⟩
      go_wp2
      go_ret
      refine ⟨ret_bool ?_, by repeat (first | exact Fr.refl _ _ | apply Fr.drewN | apply Fr.alloc)⟩
      have h6 := E1.out
      symm; simp; intro h; exact h6 (by rw [h])
  · have d0 : (p.done == q.done) = false := by simp [e0]
    have E0 := Lib.hid e0
    clear e0
    go_enter Tryd.func27, Tryd.ntmps27
    go_wp2
    go_ret
    refine ⟨ret_bool ?_, by repeat (first | exact Fr.refl _ _ | apply Fr.drewN | apply Fr.alloc)⟩
    have h6 := E0.out
    symm; simp; intro h; exact h6 (by rw [h])
end Go.Proofs.YtjpbmbonccenfaaDoor
