/- The reference's Normal; moved, Join of the program. -/
import Derived.Test.YtjpbmbonccenfaaNorm
namespace Go.Proofs.Ytjpbmbonccenfaa
open Go.RowKit
set_option linter.unusedVariables false

theorem tot_take_succ {ps : List Pk} {k : Nat} {x y : Int} (hx : Hid (ps[k]? = some (x, y))) {s : Int} (h : Hid ((∀ p ∈ ps.take k, 0 ≤ p.2) ∧ tot (ps.take k) = s)) (hy : 1 ≤ y) : Hid ((∀ p ∈ ps.take (k + 1), 0 ≤ p.2) ∧ tot (ps.take (k + 1)) = s + y) := by
  show _ ∧ _
  rw [List.take_add_one, hx.out, tot_append, h.out.2]
  refine ⟨fun p hp => ?_, by simp [tot]⟩
  rcases List.mem_append.1 hp with hp | hp
  · exact h.out.1 p hp
  · simp at hp; subst hp; simp; omega

set_option maxRecDepth 100000 in
set_option maxHeartbeats 3200000 in
theorem refNormal_any (A : Option Addr) (c : Nat) (ps : List Pk) (w : World) (ha : Rp w A c ps) (hlen : ps.length ≤ 1000000) :
    Calls Try.prog 15 #[.slice A ps.length c] w (RetNorm w (normal ps)) := by
  go_enter Try.func15, Try.ntmps15
  go_wp2
  go_loopw [4, 5, 6] (fun sv v i wr => ∃ (k : Nat) (s : Int), k ≤ ps.length ∧ i = .int .i64 k ∧ sv = .int .i64 s ∧ 0 ≤ s ∧ s ≤ 65536 ∧ Hid (checkP 0 ps = checkP s (ps.drop k)) ∧ Hid ((∀ p ∈ ps.take k, 0 ≤ p.2) ∧ tot (ps.take k) = s) ∧ GathP w (joinedOf (ps.take k)) v wr) (fun _ _ i _ => ps.length - (intOf i).toNat)
  case atStart => exact ⟨0, 0, Nat.zero_le _, rfl, rfl, by omega, by omega, by show _ = _; simp, by show _ ∧ _; simp [tot], none, 0, by simp [joinedOf], by simpa [joinedOf, flat] using World.ownsRow_nil w w.heap.size 43 2, Fr.refl _ _⟩
  case round =>
    obtain ⟨k, s, hk, rfl, rfl, hs0, hs1, hck, htk, A1, c1, rfl, hown, hf⟩ := hrel
    by_cases hlt : k < ps.length
    · obtain ⟨b1, o1, x, y, rfl, hx, hc1, hc2⟩ := (ha.fr0 hf).at_ hlt
      have hca := check_at hx s
      by_cases h1 : x < 0
      · rw [if_pos (by omega)] at hca
        have HC : Hid (checkP 0 ps = 1) := hck.out.trans hca
        have d1 : decide (x < 0) = true := by simpa using h1
        clear hca hck htk hown
        go_wp2
        go_ret2
        exact RetNorm.err hf HC (by omega)
      · have d1 : decide (x < 0) = false := by simpa using h1
        by_cases h2 : 8 ≤ x
        · rw [if_pos (by omega)] at hca
          have HC : Hid (checkP 0 ps = 1) := hck.out.trans hca
          have d2 : decide (8 ≤ x) = true := by simpa using h2
          clear hca hck htk hown
          go_wp2
          go_ret2
          exact RetNorm.err hf HC (by omega)
        · have d2 : decide (8 ≤ x) = false := by simpa using h2
          by_cases h3 : y < 1
          · rw [if_pos (by omega)] at hca
            have HC : Hid (checkP 0 ps = 1) := hck.out.trans hca
            have d3 : decide (y < 1) = true := by simpa using h3
            clear hca hck htk hown
            go_wp2
            go_ret2
            exact RetNorm.err hf HC (by omega)
          · have d3 : decide (y < 1) = false := by simpa using h3
            rw [if_neg (by omega)] at hca
            by_cases h4 : 65536 - s < y
            · rw [if_pos h4] at hca
              have HC : Hid (checkP 0 ps = 3) := hck.out.trans hca
              clear hca hck htk hown
              go_wp2
              go_ret2
              exact RetNorm.err hf HC (by omega)
            · rw [if_neg h4] at hca
              have HC : Hid (checkP 0 ps = checkP (s + y) (ps.drop (k + 1))) := hck.out.trans hca
              have htk' := tot_take_succ hx htk (by omega)
              have hstep := joined_take hx
              have hjf := joined_facts (ps.take k) htk.out.1
              obtain ⟨hj1, hj2, hj3⟩ := hjf
              have hj4 : (ps.take k).length ≤ k := by simp; omega
              rw [htk.out.2] at hj2
              generalize joinedOf (ps.take k) = out at *
              have HS := Lib.hid hstep
              have HJ := Lib.hid hj1
              clear hstep hj1 hca hck
              by_cases hz : out.length = 0
              · have hd : decide (0 < out.length) = false := by simp [hz]
                have hz1 : (out.length : Int) ≤ 0 := by omega
                have HZ := Lib.hid hz
                clear hz
                go_wp2
                go_quiet (fail)
                go_wp2_with (at_builtin; refine wpList_append_pick rfl (.tmp 86) (.tmp 91) rfl (.slice A1 out.length c1) _ rfl (own_drewN (hown.alloc _) _) wr.heap.size x y rfl (by simp) (by simp) (by omega) (by simp; have := hf.size; omega) ?_; intro A2 c2 w2 hown2 hg2)
                go_roundw
                case rel =>
                  refine ⟨k + 1, s + y, by omega, by go_num, rfl, by omega, by omega, HC, htk', gathP_more (p := (x, y)) ((hf.alloc _).drewN _) (own_drewN (hown.alloc _) _) hg2 hown2 ?_⟩
                  rw [HS.out, join_first _ HZ.out]
                  have := List.eq_nil_of_length_eq_zero HZ.out
                  simp [this]
                case measure => simp [intOf]; omega
              · have hlast : out[out.length - 1]? = some out[out.length - 1] := List.getElem?_eq_getElem (by omega)
                obtain ⟨g, rfl, hg1, hg2⟩ := own_some hown (by omega)
                have a0 := hown.cellAt ((out.length - 1) * 2) (by omega)
                have a1 := hown.cellAt ((out.length - 1) * 2 + 1) (by omega)
                rw [flat_at0, hlast] at a0
                rw [flat_at1, hlast] at a1
                have a2 := hown.frozenAt ((out.length - 1) * 2 + 1)
                have hq0 := HJ.out _ (List.mem_of_getElem? hlast)
                have hq1 := tot_mem_le HJ.out (List.mem_of_getElem? hlast)
                generalize hq : out[out.length - 1] = q at *
                obtain ⟨q1, q2⟩ := q
                simp only [Option.map_some] at a0 a1
                simp only at hq0 hq1
                have HL := Lib.hid hlast
                clear hlast hq
                have hd : decide (0 < out.length) = true := by simp; omega
                have hlt' : out.length - 1 < out.length := by omega
                by_cases he : q1 = x
                · have hb : (q1 == x) = true := by simpa using he
                  have HE := Lib.hid he
                  clear he
                  go_wp2
                  go_quiet (fail)
                  go_wp2
                  go_region
                  go_wp2
                  go_roundw
                  case rel =>
                    have hst := hown.stored ((out.length - 1) * 2 + 1) (.int .i64 (q2 + y))
                    refine ⟨k + 1, s + y, by omega, by go_num, rfl, by omega, by omega, HC, htk', gathP_set (ps := out.set (out.length - 1) (q1, q2 + y)) (hf.setCell (p := ⟨g, (out.length - 1) * 2 + 1, none⟩) (.inr (by have := hf.size; omega)) _) hst.1 ?_ ?_ ?_⟩
                    · rw [HS.out, join_same HL.out HE.out]
                    · rw [flat_set _ _ _ _ HL.out]
                    · exact ⟨rfl, rfl, rfl, rfl⟩
                  case measure => simp [intOf]; omega
                · have hb : (q1 == x) = false := by simpa using he
                  have HE := Lib.hid he
                  clear he
                  go_wp2
                  go_quiet (fail)
                  go_wp2_with (at_builtin; refine wpList_append_pick rfl (.tmp 86) (.tmp 91) rfl (.slice (some ⟨g, 0, none⟩) out.length c1) _ rfl (own_drewN (hown.alloc _) _) wr.heap.size x y rfl (by simp) (by simp) (by omega) (by simp; have := hf.size; omega) ?_; intro A2 c2 w2 hown2 hg2')
                  go_roundw
                  case rel =>
                    refine ⟨k + 1, s + y, by omega, by go_num, rfl, by omega, by omega, HC, htk', gathP_more (p := (x, y)) ((hf.alloc _).drewN _) (own_drewN (hown.alloc _) _) hg2' hown2 ?_⟩
                    rw [HS.out, join_new HL.out HE.out]
                  case measure => simp [intOf]; omega
    · have HC : checkP 0 ps = 0 := by
        rw [hck.out, List.drop_of_length_le (by omega), checkP]
      go_wp2
      go_ret2
      rw [List.take_of_length_le (by omega)] at hown ⊢
      rw [show normal ps = (joinedOf ps, 0) by unfold normal; rw [if_pos HC]]
      exact ⟨_, _, rfl, hf, hown⟩
end Go.Proofs.Ytjpbmbonccenfaa
