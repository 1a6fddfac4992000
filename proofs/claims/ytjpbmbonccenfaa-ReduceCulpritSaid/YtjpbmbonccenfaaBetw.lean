/- The version between two others that is asked next: the reference's between. -/
import Derived.Test.YtjpbmbonccenfaaRef1
namespace Go.Proofs.Ytjpbmbonccenfaa
open Go.RowKit
set_option linter.unusedVariables false

def betwAt (kn : Int → Bool) (low high m d : Int) : Option Int :=
  if low < m + d ∧ m + d < high ∧ kn (m + d) = false then some (m + d)
  else if low < m - d ∧ m - d < high ∧ kn (m - d) = false then some (m - d) else none
/-- from distance d on, so many more distances -/
def betwFrom (kn : Int → Bool) (low high m : Int) : Nat → Int → Int
  | 0, _ => -1
  | t + 1, d => match betwAt kn low high m d with
    | some x => x
    | none => betwFrom kn low high m t (d + 1)
/-- The first version near the middle that is not known; -1: there is none. -/
def betw (kn : Int → Bool) (low high : Int) : Int := betwFrom kn low high ((low + high) / 2) (high - low + 1).toNat 0

theorem betw_end {kn : Int → Bool} {low high m : Int} {t : Nat} {d : Int} (h : t = 0) : betwFrom kn low high m t d = -1 := by subst h; rfl
theorem betw_hit {kn : Int → Bool} {low high m : Int} {t : Nat} {d x : Int} (ht : 0 < t) (h : betwAt kn low high m d = some x) : betwFrom kn low high m t d = x := by
  obtain ⟨t, rfl⟩ : ∃ n, t = n + 1 := ⟨t - 1, by omega⟩
  simp [betwFrom, h]
theorem betw_miss {kn : Int → Bool} {low high m : Int} {t : Nat} {d : Int} (ht : 0 < t) (h : betwAt kn low high m d = none) : betwFrom kn low high m t d = betwFrom kn low high m (t - 1) (d + 1) := by
  obtain ⟨t, rfl⟩ : ∃ n, t = n + 1 := ⟨t - 1, by omega⟩
  simp [betwFrom, h]

/-- What is known, as a list of bools. -/
def Known (kn : Int → Bool) (bs : List Bool) : Prop := ∀ i : Nat, i < bs.length → bs[i]? = some (kn i)

theorem Known.at_ {kn : Int → Bool} {bs : List Bool} {w : World} {A : Option Addr} {c : Nat} (h : Known kn bs) (hr : Rd w .bool A c bs) {i : Int} (h0 : 0 ≤ i) (h1 : i < bs.length) :
    ∃ b off, A = some ⟨b, off, none⟩ ∧ w.cell? ⟨b, off + i.toNat, none⟩ = some (.bool (kn i)) := by
  obtain ⟨b, off, x, hA, hx, hc⟩ := hr.at_ (k := i.toNat) (by omega)
  have := h i.toNat (by omega)
  rw [hx.out] at this
  have hi : ((i.toNat : Nat) : Int) = i := by omega
  rw [hi] at this
  injection this with this
  subst this
  exact ⟨b, off, hA, hc⟩

set_option maxHeartbeats 1600000 in
theorem refBetween_any (kn : Int → Bool) (bs : List Bool) (low high : Int) (A : Option Addr) (c : Nat) (w : World) (hr : Rd w .bool A c bs) (hk : Known kn bs) (h0 : 0 ≤ low) (h1 : low ≤ high) (h2 : high ≤ bs.length) (h3 : high ≤ 1000000) :
    Calls Try.prog 47 #[.int .i64 low, .int .i64 high, .slice A bs.length c] w (RetQ w (.int .i64 (betw kn low high))) := by
  have hbd := hr.bound
  go_enter Try.func47, Try.ntmps47
  go_wp2
  generalize hm : (low + high) / 2 = m
  have hm1 : low ≤ m := by omega
  have hm2 : m ≤ high := by omega
  have hB : Hid (betw kn low high = betwFrom kn low high m (high - low + 1).toNat 0) := by subst hm; exact rfl
  clear hm
  go_loop [8] (fun i => ∃ d : Nat, (d : Int) ≤ high - low + 1 ∧ i = .int .i64 d ∧ betw kn low high = betwFrom kn low high m (high - low + 1 - d).toNat d) (fun i => (high - low + 1 - intOf i).toNat)
  case atStart => exact ⟨0, by omega, rfl, by rw [hB.out]; simp⟩
  case round =>
    obtain ⟨d, hd, rfl, hbw⟩ := hrel
    have HB := Lib.hid hbw
    clear hbw hB
    by_cases hlt : (d : Int) ≤ high - low
    · have hU : (low < m + d ∧ m + d < high ∧ kn (m + d) = false) ∨ (¬ low < m + d) ∨ (low < m + d ∧ ¬ m + d < high) ∨ (low < m + d ∧ m + d < high ∧ kn (m + d) = true) := by
        by_cases a1 : low < m + d <;> by_cases a2 : m + d < high <;> cases a3 : kn (m + d) <;> simp [a1, a2]
      have hD : (low < m - d ∧ m - d < high ∧ kn (m - d) = false) ∨ (¬ low < m - d) ∨ (low < m - d ∧ ¬ m - d < high) ∨ (low < m - d ∧ m - d < high ∧ kn (m - d) = true) := by
        by_cases a1 : low < m - d <;> by_cases a2 : m - d < high <;> cases a3 : kn (m - d) <;> simp [a1, a2]
      rcases hU with ⟨u1, u2, u3⟩ | u1 | ⟨u1, u2⟩ | ⟨u1, u2, u3⟩
      · obtain ⟨b, off, rfl, hc⟩ := hk.at_ hr (i := m + d) (by omega) (by omega)
        have hfin := Lib.hid (betw_hit (t := (high - low + 1 - d).toNat) (by omega) (show betwAt kn low high m d = some (m + d) by simp [betwAt, u1, u2, u3]))
        have e1 : decide (low < m + d) = true := by simpa using u1
        have e2 : decide (m + d < high) = true := by simpa using u2
        clear hD
        go_wp2
        go_ret
        exact ⟨ret_int (by rw [HB.out, hfin.out]), 0, rfl⟩
      · have e1 : decide (low < m + d) = false := by simpa using u1
        have v1 : ¬ low < m - d := by omega
        have g1 : decide (low < m - d) = false := by simpa using v1
        clear hD
        have hfin := Lib.hid (betw_miss (t := (high - low + 1 - d).toNat) (by omega) (show betwAt kn low high m d = none by simp [betwAt, u1, v1]))
        go_wp2
        go_round
        case rel => exact ⟨d + 1, by omega, by go_num, by rw [HB.out, hfin.out]; congr 1; omega⟩
        case measure => simp [intOf]; omega
      · have e1 : decide (low < m + d) = true := by simpa using u1
        have e2 : decide (m + d < high) = false := by simpa using u2
        rcases hD with ⟨v1, v2, v3⟩ | v1 | ⟨v1, v2⟩ | ⟨v1, v2, v3⟩
        · have g1 : decide (low < m - d) = true := by simpa using v1
          have g2 : decide (m - d < high) = true := by simpa using v2
          obtain ⟨b', off', hA', hc'⟩ := hk.at_ hr (i := m - d) (by omega) (by omega)
          rw [show (m - d).toNat = m.toNat - d by omega] at hc'
          subst hA'
          have hfin := Lib.hid (betw_hit (t := (high - low + 1 - d).toNat) (by omega) (show betwAt kn low high m d = some (m - d) by simp [betwAt, u1, u2, v1, v2, v3]))
          go_wp2
          go_ret
          exact ⟨ret_int (by rw [HB.out, hfin.out]), 0, rfl⟩
        · have g1 : decide (low < m - d) = false := by simpa using v1
          have hfin := Lib.hid (betw_miss (t := (high - low + 1 - d).toNat) (by omega) (show betwAt kn low high m d = none by simp [betwAt, u1, u2, v1]))
          go_wp2
          go_round
          case rel => exact ⟨d + 1, by omega, by go_num, by rw [HB.out, hfin.out]; congr 1; omega⟩
          case measure => simp [intOf]; omega
        · have g1 : decide (low < m - d) = true := by simpa using v1
          have g2 : decide (m - d < high) = false := by simpa using v2
          have hfin := Lib.hid (betw_miss (t := (high - low + 1 - d).toNat) (by omega) (show betwAt kn low high m d = none by simp [betwAt, u1, u2, v1, v2]))
          go_wp2
          go_round
          case rel => exact ⟨d + 1, by omega, by go_num, by rw [HB.out, hfin.out]; congr 1; omega⟩
          case measure => simp [intOf]; omega
        · have g1 : decide (low < m - d) = true := by simpa using v1
          have g2 : decide (m - d < high) = true := by simpa using v2
          obtain ⟨b', off', hA', hc'⟩ := hk.at_ hr (i := m - d) (by omega) (by omega)
          rw [show (m - d).toNat = m.toNat - d by omega] at hc'
          subst hA'
          have hfin := Lib.hid (betw_miss (t := (high - low + 1 - d).toNat) (by omega) (show betwAt kn low high m d = none by simp [betwAt, u1, u2, v1, v2, v3]))
          go_wp2
          go_round
          case rel => exact ⟨d + 1, by omega, by go_num, by rw [HB.out, hfin.out]; congr 1; omega⟩
          case measure => simp [intOf]; omega
      · have e1 : decide (low < m + d) = true := by simpa using u1
        have e2 : decide (m + d < high) = true := by simpa using u2
        rcases hD with ⟨v1, v2, v3⟩ | v1 | ⟨v1, v2⟩ | ⟨v1, v2, v3⟩
        · have g1 : decide (low < m - d) = true := by simpa using v1
          have g2 : decide (m - d < high) = true := by simpa using v2
          obtain ⟨b, off, hA, hc⟩ := hk.at_ hr (i := m + d) (by omega) (by omega)
          obtain ⟨b', off', hA', hc'⟩ := hk.at_ hr (i := m - d) (by omega) (by omega)
          rw [show (m - d).toNat = m.toNat - d by omega] at hc'
          subst hA
          obtain ⟨rfl, rfl⟩ : b = b' ∧ off = off' := by simpa using hA'
          clear hA'
          have hfin := Lib.hid (betw_hit (t := (high - low + 1 - d).toNat) (by omega) (show betwAt kn low high m d = some (m - d) by simp [betwAt, u1, u2, u3, v1, v2, v3]))
          go_wp2
          go_ret
          exact ⟨ret_int (by rw [HB.out, hfin.out]), 0, rfl⟩
        · have g1 : decide (low < m - d) = false := by simpa using v1
          obtain ⟨b, off, hA, hc⟩ := hk.at_ hr (i := m + d) (by omega) (by omega)
          subst hA
          have hfin := Lib.hid (betw_miss (t := (high - low + 1 - d).toNat) (by omega) (show betwAt kn low high m d = none by simp [betwAt, u1, u2, u3, v1]))
          go_wp2
          go_round
          case rel => exact ⟨d + 1, by omega, by go_num, by rw [HB.out, hfin.out]; congr 1; omega⟩
          case measure => simp [intOf]; omega
        · have g1 : decide (low < m - d) = true := by simpa using v1
          have g2 : decide (m - d < high) = false := by simpa using v2
          obtain ⟨b, off, hA, hc⟩ := hk.at_ hr (i := m + d) (by omega) (by omega)
          subst hA
          have hfin := Lib.hid (betw_miss (t := (high - low + 1 - d).toNat) (by omega) (show betwAt kn low high m d = none by simp [betwAt, u1, u2, u3, v1, v2]))
          go_wp2
          go_round
          case rel => exact ⟨d + 1, by omega, by go_num, by rw [HB.out, hfin.out]; congr 1; omega⟩
          case measure => simp [intOf]; omega
        · have g1 : decide (low < m - d) = true := by simpa using v1
          have g2 : decide (m - d < high) = true := by simpa using v2
          obtain ⟨b, off, hA, hc⟩ := hk.at_ hr (i := m + d) (by omega) (by omega)
          obtain ⟨b', off', hA', hc'⟩ := hk.at_ hr (i := m - d) (by omega) (by omega)
          rw [show (m - d).toNat = m.toNat - d by omega] at hc'
          subst hA
          obtain ⟨rfl, rfl⟩ : b = b' ∧ off = off' := by simpa using hA'
          clear hA'
          have hfin := Lib.hid (betw_miss (t := (high - low + 1 - d).toNat) (by omega) (show betwAt kn low high m d = none by simp [betwAt, u1, u2, u3, v1, v2, v3]))
          go_wp2
          go_round
          case rel => exact ⟨d + 1, by omega, by go_num, by rw [HB.out, hfin.out]; congr 1; omega⟩
          case measure => simp [intOf]; omega
    · have hfin := Lib.hid (betw_end (kn := kn) (low := low) (high := high) (m := m) (d := d) (show (high - low + 1 - d).toNat = 0 by omega))
      go_wp2
      go_ret
      exact ⟨ret_int (by rw [HB.out, hfin.out]), 0, rfl⟩
end Go.Proofs.Ytjpbmbonccenfaa
