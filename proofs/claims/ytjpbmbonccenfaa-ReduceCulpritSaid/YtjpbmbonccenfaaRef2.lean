/- The contracts of lists without others: Minus, without. -/
import Derived.Test.YtjpbmbonccenfaaRef1
namespace Go.Proofs.Ytjpbmbonccenfaa
open Go.RowKit
set_option linter.unusedVariables false

theorem elemInts : Elem Try.prog 24 3 (.int .i64 0) 1 8 := ⟨Try.underlying24, by kernel_rfl, rfl, by omega, by omega⟩
theorem one_i64 (z : Int) : (Value.int .i64 z).oneCell' = true := rfl

/-- A list without the numbers of another one. -/
def minus (xs ys : List Int) : List Int := xs.filter fun x => decide (x ∉ ys)

theorem minus_hit {xs ys : List Int} {k : Nat} {x : Int} (hx : Hid (xs[k]? = some x)) (h : x ∈ ys) : minus (xs.take (k + 1)) ys = minus (xs.take k) ys := by
  rw [List.take_add_one, hx.out]; simp [minus, h]
theorem minus_miss {xs ys : List Int} {k : Nat} {x : Int} (hx : Hid (xs[k]? = some x)) (h : x ∉ ys) : minus (xs.take (k + 1)) ys = minus (xs.take k) ys ++ [x] := by
  rw [List.take_add_one, hx.out]; simp [minus, h]
theorem minus_le (xs ys : List Int) : (minus xs ys).length ≤ xs.length := List.length_filter_le _ _

set_option maxHeartbeats 800000 in
theorem Minus_any (A B : Option Addr) (ca cb : Nat) (xs ys : List Int) (w : World) (ha : Rd w (.int .i64) A ca xs) (hb : Rd w (.int .i64) B cb ys) (hlen : xs.length ≤ 1000000) :
    Calls Try.prog 25 #[.slice A xs.length ca, .slice B ys.length cb] w (RetOwn w 3 ((minus xs ys).map (.int .i64))) := by
  go_enter Try.func25, Try.ntmps25
  go_wp2
  go_loopw [5, 6] (fun v i wr => ∃ k : Nat, k ≤ xs.length ∧ i = .int .i64 k ∧ Gath w 3 ((minus (xs.take k) ys).map (.int .i64)) v wr) (fun _ i _ => xs.length - (intOf i).toNat)
  case atStart => exact ⟨0, Nat.zero_le _, rfl, Gath.start _ _ (by simp [minus])⟩
  case round =>
    obtain ⟨k, hk, rfl, A1, c1, rfl, hown, hf⟩ := hrel
    have hm := minus_le (xs.take k) ys
    have hm2 : (xs.take k).length ≤ k := by simp; omega
    by_cases hlt : k < xs.length
    · obtain ⟨b1, o1, x, rfl, hx, hc1⟩ := (ha.fr0 hf).at_ hlt
      simp only [List.length_map] at hown
      by_cases hm : x ∈ ys
      · have hd : decide (x ∈ ys) = true := by simpa using hm
        go_wp2_with (go_at_call 27; refine (Has_any _ _ _ _ _ (hb.fr0 hf)).mono ?_; rintro e w' ⟨rfl, n, rfl⟩)
        go_roundw
        case rel => exact ⟨k + 1, by omega, by go_num, Gath.same (hf.drewN n) (own_drewN hown _) (by rw [minus_hit hx hm])⟩
        case measure => simp [intOf]; omega
      · have hd : decide (x ∈ ys) = false := by simpa using hm
        go_wp2_with (first
          | (at_builtin
             refine wpList_append_rd rfl (.tmp 20) (.tmp 25) _ rfl elemInts (.slice A1 (minus (List.take k xs) ys).length c1) _ rfl (own_drewN (hown.alloc _) _) _ _ [x] (.int .i64) rfl ((Rd.one _ _ _ _).drewN _) one_i64 (by simp; omega) (by simp; have := hf.size; omega) ?_
             intro A2 c2 w2 hown2 hg2 hat2)
          | (go_at_call 27; refine (Has_any _ _ _ _ _ (hb.fr0 hf)).mono ?_; rintro e w' ⟨rfl, n, rfl⟩))
        go_roundw
        case rel => exact ⟨k + 1, by omega, by go_num, Gath.snoc ((hf.alloc _).drewN n) (own_drewN (hown.alloc _) _) hg2 hown2 (by rw [minus_miss hx hm]; simp)⟩
        case measure => simp [intOf]; omega
    · go_wp2
      go_ret
      exact Gath.ret hf hown (by rw [List.take_of_length_le (by omega)])
set_option maxHeartbeats 800000 in
theorem without_any (A B : Option Addr) (ca cb : Nat) (xs ys : List Int) (w : World) (ha : Rd w (.int .i64) A ca xs) (hb : Rd w (.int .i64) B cb ys) (hlen : xs.length ≤ 1000000) :
    Calls Try.prog 60 #[.slice A xs.length ca, .slice B ys.length cb] w (RetOwn w 3 ((minus xs ys).map (.int .i64))) := by
  go_enter Try.func60, Try.ntmps60
  go_wp2_with (at_make; refine wpList_make0 rfl _ _ _ rfl elemInts xs.length rfl rfl (by omega) ?_; intro w0 hown0 hg0)
  go_loopw [5, 13] (fun v i wr => ∃ k : Nat, k ≤ xs.length ∧ i = .int .i64 k ∧ Gath w 3 ((minus (xs.take k) ys).map (.int .i64)) v wr) (fun _ i _ => xs.length - (intOf i).toNat)
  case atStart => exact ⟨0, Nat.zero_le _, rfl, Gath.made (Fr.refl _ _) hown0 hg0 (by simp [minus])⟩
  case round =>
    clear hown0 hg0
    obtain ⟨k, hk, rfl, A1, c1, rfl, hown, hf⟩ := hrel
    have hm := minus_le (xs.take k) ys
    have hm2 : (xs.take k).length ≤ k := by simp; omega
    by_cases hlt : k < xs.length
    · obtain ⟨b1, o1, x, rfl, hx, hc1⟩ := (ha.fr0 hf).at_ hlt
      simp only [List.length_map] at hown
      by_cases hm : x ∈ ys
      · have hd : decide (x ∈ ys) = true := by simpa using hm
        go_wp2_with (go_at_call 55; refine (has_any _ _ _ _ _ (hb.fr0 hf)).mono ?_; rintro e w' ⟨rfl, n, rfl⟩)
        go_roundw
        case rel => exact ⟨k + 1, by omega, by go_num, Gath.same (hf.drewN n) (own_drewN hown _) (by rw [minus_hit hx hm])⟩
        case measure => simp [intOf]; omega
      · have hd : decide (x ∈ ys) = false := by simpa using hm
        go_wp2_with (first
          | (at_builtin
             refine wpList_append_rd rfl (.tmp 21) (.tmp 23) _ rfl elemInts (.slice A1 (minus (List.take k xs) ys).length c1) _ rfl (own_drewN (hown.alloc _) _) _ _ [x] (.int .i64) rfl ((Rd.one _ _ _ _).drewN _) one_i64 (by simp; omega) (by simp; have := hf.size; omega) ?_
             intro A2 c2 w2 hown2 hg2 hat2)
          | (go_at_call 55; refine (has_any _ _ _ _ _ (hb.fr0 hf)).mono ?_; rintro e w' ⟨rfl, n, rfl⟩))
        go_roundw
        case rel => exact ⟨k + 1, by omega, by go_num, Gath.snoc ((hf.alloc _).drewN n) (own_drewN (hown.alloc _) _) hg2 hown2 (by rw [minus_miss hx hm]; simp)⟩
        case measure => simp [intOf]; omega
    · go_wp2
      go_ret
      exact Gath.ret hf hown (by rw [List.take_of_length_le (by omega)])

set_option maxHeartbeats 400000 in
theorem fresh_any (A : Option Addr) (ca : Nat) (xs : List Int) (w : World) (ha : Rd w (.int .i64) A ca xs) (hlen : xs.length ≤ 1000000) :
    Calls Try.prog 56 #[.slice A xs.length ca] w (RetOwn w 3 (xs.map (.int .i64))) := by
  go_enter Try.func56, Try.ntmps56
  go_wp2_with (first
    | (at_make; refine wpList_make0 rfl _ _ _ rfl elemInts xs.length rfl rfl (by omega) ?_; intro w0 hown0 hg0)
    | (at_builtin
       refine wpList_append_rd rfl (.tmp 5) (.tmp 6) _ rfl elemInts _ _ rfl hown0 _ _ xs (.int .i64) rfl (ha.fr0 ((Fr.refl _ _).grown hg0 (by simp))) one_i64 (by omega) hg0.size ?_
       intro A2 c2 w2 hown2 hg2 hat2))
  go_ret
  exact Gath.ret (((Fr.refl _ _).grown hg0 (by simp)).app hown0 (Nat.le_refl _) hg2) (by simpa using hown2) rfl

end Go.Proofs.Ytjpbmbonccenfaa
