/- later, SamePicks. -/
import Derived.Test.YtjpbmbonccenfaaPick
import Derived.Laws.StructEq
namespace Go.Proofs.Ytjpbmbonccenfaa
open Go.RowKit
set_option linter.unusedVariables false

/-- The next pick of a thread from place i on: its place; -1: there is none. -/
def laterFrom (t : Int) : Int → List Pk → Int
  | _, [] => -1
  | i, p :: ps => if p.1 = t then i else laterFrom t (i + 1) ps
/-- The next later pick of the thread of the pick at a place. -/
def laterOf (ps : List Pk) (at_ : Nat) : Int := laterFrom (ps.getD at_ (0, 0)).1 (at_ + 1) (ps.drop (at_ + 1))
theorem later_hit {t : Int} {ps : List Pk} {k : Nat} {x y : Int} (h : Hid (ps[k]? = some (x, y))) (e : x = t) (i : Int) : laterFrom t i (ps.drop k) = i := by
  have hk : k < ps.length := (List.getElem?_eq_some_iff.1 h.out).1
  have he : ps[k] = (x, y) := (List.getElem?_eq_some_iff.1 h.out).2
  rw [List.drop_eq_getElem_cons hk, he, laterFrom, if_pos e]
theorem later_miss {t : Int} {ps : List Pk} {k : Nat} {x y : Int} (h : Hid (ps[k]? = some (x, y))) (e : ¬ x = t) (i : Int) : laterFrom t i (ps.drop k) = laterFrom t (i + 1) (ps.drop (k + 1)) := by
  have hk : k < ps.length := (List.getElem?_eq_some_iff.1 h.out).1
  have he : ps[k] = (x, y) := (List.getElem?_eq_some_iff.1 h.out).2
  rw [List.drop_eq_getElem_cons hk, he, laterFrom, if_neg e]
theorem later_end {t : Int} {ps : List Pk} {k : Nat} (h : ps.length ≤ k) (i : Int) : laterFrom t i (ps.drop k) = -1 := by
  rw [List.drop_of_length_le h, laterFrom]

set_option maxHeartbeats 400000 in
theorem later_any (A : Option Addr) (c : Nat) (ps : List Pk) (at_ : Nat) (w : World) (ha : Rp w A c ps) (hat : at_ < ps.length) :
    Calls Try.prog 50 #[.slice A ps.length c, .int .i64 (at_ : Nat)] w (RetQ w (.int .i64 (laterOf ps at_))) := by
  have ha1 := ha.bound
  obtain ⟨b0, o0, t, y0, hA, ht, hc0, _⟩ := ha.at_ hat
  have HT : Hid (laterOf ps at_ = laterFrom t (at_ + 1) (ps.drop (at_ + 1))) := by
    show laterOf ps at_ = _
    unfold laterOf
    rw [List.getD_eq_getElem?_getD, ht.out]
    rfl
  go_enter Try.func50, Try.ntmps50
  go_wp2
  go_loopw [5] (fun i wr => ∃ k : Nat, at_ + 1 ≤ k ∧ k ≤ ps.length ∧ i = .int .i64 k ∧ Hid (laterOf ps at_ = laterFrom t k (ps.drop k)) ∧ ∃ n, wr = w.drewN n) (fun i _ => ps.length - (intOf i).toNat)
  case atStart => exact ⟨at_ + 1, Nat.le_refl _, hat, rfl, HT, 0, rfl⟩
  case round =>
    obtain ⟨k, hk0, hk, rfl, HE, n, rfl⟩ := hrel
    by_cases hlt : k < ps.length
    · obtain ⟨b1, o1, x, y, hA1, hx, hc1, hc2⟩ := ha.at_ hlt
      subst hA
      obtain ⟨rfl, rfl⟩ : b0 = b1 ∧ o0 = o1 := by simpa using hA1
      clear hA1
      by_cases he : x = t
      · have hb : (x == t) = true := by simpa using he
        have hfin := Lib.hid (later_hit hx he k)
        clear he
        go_wp2
        go_quiet (fail)
        go_wp2
        go_ret
        exact ⟨ret_int (by rw [HE.out, hfin.out]), _, by first | rfl | exact World.drewN_drewN ..⟩
      · have hb : (x == t) = false := by simpa using he
        have hfin := Lib.hid (later_miss hx he k)
        clear he
        go_wp2
        go_quiet (fail)
        go_wp2
        go_roundw
        case rel => exact ⟨k + 1, by omega, by omega, by go_num, by show _ = _; rw [HE.out, hfin.out]; rfl, _, by first | rfl | exact World.drewN_drewN ..⟩
        case measure => simp [intOf]; omega
    · have hfin := Lib.hid (later_end (t := t) (ps := ps) (k := k) (by omega) k)
      go_wp2
      go_ret
      exact ⟨ret_int (by rw [HE.out, hfin.out]), _, rfl⟩

theorem takeP_succ_eq {xs ys : List Pk} {k : Nat} {x y x' y' : Int} (h : xs.take k = ys.take k) (hx : Hid (xs[k]? = some (x, y))) (hy : Hid (ys[k]? = some (x', y'))) (e : x = x') (e' : y = y') : xs.take (k + 1) = ys.take (k + 1) := by
  rw [List.take_add_one, List.take_add_one, h, hx.out, hy.out, e, e']
theorem neP_of_at {xs ys : List Pk} {k : Nat} {x y x' y' : Int} (hx : Hid (xs[k]? = some (x, y))) (hy : Hid (ys[k]? = some (x', y'))) (e : ¬ (x = x' ∧ y = y')) : xs ≠ ys := by
  rintro rfl
  exact e (by have := hx.out.symm.trans hy.out; simpa using this)

theorem run_pick_neq (x y x' y' : Int) (w : World) : (binOp .neq 43 (.agg #[.int .i64 x, .int .i64 y]) (.agg #[.int .i64 x', .int .i64 y'])).run Try.prog w = .ok (.bool (!(x == x' && y == y'))) w := by
  have hS : Try.prog.underlying 43 = some (.struct (Try.prog.fieldsOf 43)) := by kernel_rfl
  have hp : Try.prog.stoodInHeld 43 = false := by kernel_rfl
  have hI := Try.underlying3
  rw [run_neq_struct, show (10000 : Nat) = 9999 + 1 from rfl, run_equalIn_agg w 9999 43 _ _ hS hp]
  simp only [Program.fieldsOf, Try.underlying43]
  go_simp
  by_cases h1 : x = x' <;> by_cases h2 : y = y' <;> simp [h1, h2]
set_option maxHeartbeats 400000 in
theorem SamePicks_any (A B : Option Addr) (ca cb : Nat) (xs ys : List Pk) (w : World) (ha : Rp w A ca xs) (hb : Rp w B cb ys) :
    Calls Try.prog 17 #[.slice A xs.length ca, .slice B ys.length cb] w (RetQ w (.bool (decide (xs = ys)))) := by
  have ha1 := ha.bound
  have hb1 := hb.bound
  by_cases hl : xs.length = ys.length
  · have hl1 : (xs.length : Int) ≤ ys.length := by omega
    have hl2 : (ys.length : Int) ≤ xs.length := by omega
    have HL := Lib.hid hl
    clear hl
    go_enter Try.func17, Try.ntmps17
    go_wp2
    go_loopw [5] (fun i wr => ∃ k : Nat, k ≤ xs.length ∧ i = .int .i64 k ∧ Hid (xs.take k = ys.take k) ∧ ∃ n, wr = w.drewN n) (fun i _ => xs.length - (intOf i).toNat)
    case atStart => exact ⟨0, Nat.zero_le _, rfl, by show _ = _; simp, 0, rfl⟩
    case round =>
      obtain ⟨k, hk, rfl, HE, n, rfl⟩ := hrel
      by_cases hlt : k < xs.length
      · obtain ⟨b1, o1, x, y, rfl, hx, hc1, hc2⟩ := ha.at_ hlt
        have hlt2 : k < ys.length := by omega
        obtain ⟨b2, o2, x', y', rfl, hy, hd1, hd2⟩ := hb.at_ hlt2
        have hneq := fun (W : World) => run_pick_neq x y x' y' W
        by_cases he : x = x' ∧ y = y'
        · have hb : (!(x == x' && y == y')) = false := by simp [he.1, he.2]
          have HX := Lib.hid he
          clear he
          rw [hb] at hneq
          go_wp2
          go_quiet (fail)
          go_wp2
          go_roundw
          case rel => exact ⟨k + 1, by omega, by go_num, takeP_succ_eq HE.out hx hy HX.out.1 HX.out.2, _, by first | rfl | exact World.drewN_drewN ..⟩
          case measure => simp [intOf]; omega
        · have hb : (!(x == x' && y == y')) = true := by
            rw [Bool.not_eq_true', Bool.and_eq_false_iff]
            by_cases h1 : x = x'
            · exact .inr (by simpa using fun h2 => he ⟨h1, h2⟩)
            · exact .inl (by simpa using h1)
          have HX := Lib.hid he
          clear he
          rw [hb] at hneq
          go_wp2
          go_quiet (fail)
          go_wp2
          go_ret
          refine ⟨ret_bool ?_, _, World.drewN_drewN ..⟩
          simp [neP_of_at hx hy HX.out]
      · go_wp2
        go_ret
        refine ⟨ret_bool ?_, _, rfl⟩
        have h := HE.out
        have hl := HL.out
        rw [List.take_of_length_le (by omega), List.take_of_length_le (by omega)] at h
        simp [h]
  · have hl1 : ((xs.length : Int) != ys.length) = true := by simp; omega
    have HL := Lib.hid hl
    clear hl
    go_enter Try.func17, Try.ntmps17
    go_wp2
    go_ret
    refine ⟨ret_bool ?_, 0, rfl⟩
    simp
    intro h
    exact HL.out (by rw [h])
end Go.Proofs.Ytjpbmbonccenfaa
