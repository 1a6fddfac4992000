/- The verdicts of the program: judge, between. -/
import Derived.Test.YtjpbmbonccenfaaOf
namespace Go.Proofs.Ytjpbmbonccenfaa
open Go.RowKit
set_option linter.unusedVariables false

def JudgePost (w : World) (s : Nat) (times : Int) (e : Ending) (w' : World) : Prop :=
  e = .returned (.pointer (some ⟨w.heap.size + 1, 0, none⟩)) ∧ Fr [] w w' ∧ Vers w' (w.heap.size + 1) s (timesOf times) w.heap.size []

theorem judge_any (s : Nat) (times : Int) (w : World) :
    Calls Try.prog 40 #[.pointer (some ⟨s, 0, none⟩), .int .i64 times] w (JudgePost w s times) := by
  have hmm := @run_makeMap Try.prog
  by_cases h1 : times < 1
  · have hT := Lib.hid (show timesOf times = 1 by unfold timesOf; omega)
    go_enter Try.func40, Try.ntmps40
    go_wp2
    go_ret
    refine ⟨rfl, ((Fr.refl _ _).alloc _).alloc _, ?_, ?_⟩
    · rw [hT.out]; exact Blk.new _ _ _ _ (by simp)
    · exact (MapAt.new _ _ _ _ rfl).fr0 ((Fr.refl _ _).alloc _)
  · by_cases h9 : 9 < times
    · have hT := Lib.hid (show timesOf times = 9 by unfold timesOf; omega)
      go_enter Try.func40, Try.ntmps40
      go_wp2
      go_ret
      refine ⟨rfl, ((Fr.refl _ _).alloc _).alloc _, ?_, ?_⟩
      · rw [hT.out]; exact Blk.new _ _ _ _ (by simp)
      · exact (MapAt.new _ _ _ _ rfl).fr0 ((Fr.refl _ _).alloc _)
    · have hT := Lib.hid (show timesOf times = times by unfold timesOf; omega)
      go_enter Try.func40, Try.ntmps40
      go_wp2
      go_ret
      refine ⟨rfl, ((Fr.refl _ _).alloc _).alloc _, ?_, ?_⟩
      · rw [hT.out]; exact Blk.new _ _ _ _ (by simp)
      · exact (MapAt.new _ _ _ _ rfl).fr0 ((Fr.refl _ _).alloc _)

/-- Is a version known? -/
def isKn (m : List (Int × Int)) (i : Int) : Bool := (m.lookup i).isSome
def Hit (kn : Int → Bool) (low high x : Int) : Prop := low < x ∧ x < high ∧ kn x = false
theorem betwAt_up {kn : Int → Bool} {low high m d : Int} (h : Hit kn low high (m + d)) : betwAt kn low high m d = some (m + d) := by unfold betwAt; unfold Hit at h; rw [if_pos h]
theorem betwAt_down {kn : Int → Bool} {low high m d : Int} (h0 : ¬ Hit kn low high (m + d)) (h : Hit kn low high (m - d)) : betwAt kn low high m d = some (m - d) := by unfold betwAt; unfold Hit at h h0; rw [if_neg h0, if_pos h]
theorem betwAt_none {kn : Int → Bool} {low high m d : Int} (h0 : ¬ Hit kn low high (m + d)) (h : ¬ Hit kn low high (m - d)) : betwAt kn low high m d = none := by unfold betwAt; unfold Hit at h h0; rw [if_neg h0, if_neg h]

/-- What one element of the pair comes to. -/
theorem hit_ways (kn : Int → Bool) (low high x : Int) : (kn x = true ∧ ¬ Hit kn low high x) ∨ (kn x = false ∧ ¬ low < x ∧ ¬ Hit kn low high x) ∨ (kn x = false ∧ low < x ∧ ¬ x < high ∧ ¬ Hit kn low high x) ∨ (kn x = false ∧ low < x ∧ x < high ∧ Hit kn low high x) := by
  unfold Hit
  cases h : kn x <;> by_cases h1 : low < x <;> by_cases h2 : x < high <;> simp [h1, h2]

set_option maxHeartbeats 3200000 in
theorem ibetween_any (v s kv : Nat) (times : Int) (mp : List (Int × Int)) (low high : Int) (w : World) (h : Vers w v s times kv mp) (h0 : 0 ≤ low) (h1 : low ≤ high) (h3 : high ≤ 1000000) :
    Calls Try.prog 42 #[.pointer (some ⟨v, 0, none⟩), .int .i64 low, .int .i64 high] w (RetV w (.int .i64 (betw (isKn mp) low high))) := by
  go_enter Try.func42, Try.ntmps42
  go_wp2
  generalize hm : (low + high) / 2 = m
  have hm1 : low ≤ m := by omega
  have hm2 : m ≤ high := by omega
  have hB : Hid (betw (isKn mp) low high = betwFrom (isKn mp) low high m (high - low + 1).toNat 0) := by subst hm; exact rfl
  clear hm
  go_loopw [8] (fun i wr => ∃ d : Nat, (d : Int) ≤ high - low + 1 ∧ i = .int .i64 d ∧ Hid (betw (isKn mp) low high = betwFrom (isKn mp) low high m (high - low + 1 - d).toNat d) ∧ Fr [] w wr) (fun i _ => (high - low + 1 - intOf i).toNat)
  case atStart => exact ⟨0, by omega, rfl, by show _ = _; rw [hB.out]; simp, Fr.refl _ _⟩
  case round =>
    obtain ⟨d, hd, rfl, hbw, hf⟩ := hrel
    clear hB
    by_cases hlt : (d : Int) ≤ high - low
    · obtain ⟨wo, hwo⟩ : ∃ wo : World, wo = wr := ⟨_, rfl⟩
      subst hwo
      go_wp2
      have hf1 : Fr [] w (wo.alloc (.cells #[.int .i64 (m + d), .int .i64 (m - d)] 3)) := hf.alloc _
      have hp := Rd.two wo 3 (Value.int .i64) (m + d) (m - d)
      generalize wo.alloc (.cells #[.int .i64 (m + d), .int .i64 (m - d)] 3) = w1 at hf1 hp
      generalize wo.heap.size = H at hp
      have hv1 := h.fr hf1 (by simp) (by simp)
      have c2 := hv1.blk.cell 2 rfl
      have p0 := hp.two0
      have p1 := hp.two1
      have hlk := fun x : Int => run_lookup_at keyI Try.underlying99 0 (zeroV _) hv1.map x
      have hlk0 := hlk (m + d)
      have hlk1 := hlk (m - d)
      rw [show (mp.lookup (m + d)).isSome = isKn mp (m + d) from rfl] at hlk0
      rw [show (mp.lookup (m - d)).isSome = isKn mp (m - d) from rfl] at hlk1
      clear hlk
      go_loop [32] (fun i => ∃ k : Nat, k ≤ 2 ∧ i = .int .i64 k ∧ Hid (1 ≤ k → ¬ Hit (isKn mp) low high (m + d)) ∧ Hid (2 ≤ k → ¬ Hit (isKn mp) low high (m - d))) (fun i => 2 - (intOf i).toNat)
      case atStart => exact ⟨0, by omega, rfl, fun h => by omega, fun h => by omega⟩
      case round =>
        obtain ⟨k, hk, rfl, g0, g1⟩ := hrel
        by_cases hk0 : k = 0
        · subst hk0
          rcases hit_ways (isKn mp) low high (m + d) with ⟨a1, a4⟩ | ⟨a1, a2, a4⟩ | ⟨a1, a2, a3, a4⟩ | ⟨a1, a2, a3, a4⟩
          · have H4 := Lib.hid a4
            clear a4
            go_wp2
            go_round
            case rel => exact ⟨1, by omega, rfl, fun _ => H4.out, fun h => by omega⟩
            case measure => simp [intOf]
          · have H4 := Lib.hid a4
            clear a4
            have e1 : decide (low < m + d) = false := by simpa using a2
            go_wp2
            go_round
            case rel => exact ⟨1, by omega, rfl, fun _ => H4.out, fun h => by omega⟩
            case measure => simp [intOf]
          · have H4 := Lib.hid a4
            clear a4
            have e1 : decide (low < m + d) = true := by simpa using a2
            have e2 : decide (m + d < high) = false := by simpa using a3
            go_wp2
            go_round
            case rel => exact ⟨1, by omega, rfl, fun _ => H4.out, fun h => by omega⟩
            case measure => simp [intOf]
          · have HN := Lib.hid (betw_hit (t := (high - low + 1 - d).toNat) (by omega) (betwAt_up a4))
            clear a4
            have e1 : decide (low < m + d) = true := by simpa using a2
            have e2 : decide (m + d < high) = true := by simpa using a3
            go_wp2
            go_ret
            exact ⟨ret_int (by rw [hbw.out, HN.out]), hf1⟩
        · by_cases hk1 : k = 1
          · subst hk1
            have hno := g0.out (by omega)
            have HNO := Lib.hid hno
            clear hno
            rcases hit_ways (isKn mp) low high (m - d) with ⟨a1, a4⟩ | ⟨a1, a2, a4⟩ | ⟨a1, a2, a3, a4⟩ | ⟨a1, a2, a3, a4⟩
            · have H4 := Lib.hid a4
              clear a4
              go_wp2
              go_round
              case rel => exact ⟨2, by omega, rfl, fun _ => HNO.out, fun _ => H4.out⟩
              case measure => simp [intOf]
            · have H4 := Lib.hid a4
              clear a4
              have e1 : decide (low < m - d) = false := by simpa using a2
              go_wp2
              go_round
              case rel => exact ⟨2, by omega, rfl, fun _ => HNO.out, fun _ => H4.out⟩
              case measure => simp [intOf]
            · have H4 := Lib.hid a4
              clear a4
              have e1 : decide (low < m - d) = true := by simpa using a2
              have e2 : decide (m - d < high) = false := by simpa using a3
              go_wp2
              go_round
              case rel => exact ⟨2, by omega, rfl, fun _ => HNO.out, fun _ => H4.out⟩
              case measure => simp [intOf]
            · have HN := Lib.hid (betw_hit (t := (high - low + 1 - d).toNat) (by omega) (betwAt_down HNO.out a4))
              clear a4
              have e1 : decide (low < m - d) = true := by simpa using a2
              have e2 : decide (m - d < high) = true := by simpa using a3
              go_wp2
              go_ret
              exact ⟨ret_int (by rw [hbw.out, HN.out]), hf1⟩
          · obtain rfl : k = 2 := by omega
            have hno := betw_miss (t := (high - low + 1 - d).toNat) (by omega) (betwAt_none (g0.out (by omega)) (g1.out (by omega)))
            have HN := Lib.hid hno
            clear hno hlk0 hlk1 p0 p1
            go_wp2
            go_roundw
            case rel => exact ⟨d + 1, by omega, by go_num, by show _ = _; rw [hbw.out, HN.out]; congr 1; omega, hf1⟩
            case measure => simp [intOf]; omega
    · have hfin := Lib.hid (betw_end (kn := isKn mp) (low := low) (high := high) (m := m) (d := d) (show (high - low + 1 - d).toNat = 0 by omega))
      go_wp2
      go_ret
      exact ⟨ret_int (by rw [hbw.out, hfin.out]), hf⟩
end Go.Proofs.Ytjpbmbonccenfaa
