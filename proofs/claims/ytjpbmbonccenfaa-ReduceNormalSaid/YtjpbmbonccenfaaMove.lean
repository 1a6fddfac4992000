/- moved, Join of the program. -/
import Derived.Test.YtjpbmbonccenfaaRNorm
namespace Go.Proofs.Ytjpbmbonccenfaa
open Go.RowKit
set_option linter.unusedVariables false

theorem getD_at {ps : List Pk} {k : Nat} {x y : Int} (h : Hid (ps[k]? = some (x, y))) : ps.getD k (0, 0) = (x, y) := by
  rw [List.getD_eq_getElem?_getD, h.out]; rfl
theorem mv_skip {ps : List Pk} {a n : Nat} : mvUpto ps a n (n + 1) = mvUpto ps a n n := by rw [mvUpto, if_pos rfl]
theorem mv_both {ps : List Pk} {a n : Nat} {x y x' y' : Int} (ha : Hid (ps[a]? = some (x, y))) (hn : Hid (ps[n]? = some (x', y'))) (h : a ≠ n) : mvUpto ps a n (a + 1) = mvUpto ps a n a ++ [(x, y)] ++ [(x', y')] := by
  rw [mvUpto, if_neg h, if_pos rfl, getD_at ha, getD_at hn]; simp
theorem mv_one {ps : List Pk} {a n k : Nat} {x y : Int} (hk : Hid (ps[k]? = some (x, y))) (h1 : k ≠ n) (h2 : k ≠ a) : mvUpto ps a n (k + 1) = mvUpto ps a n k ++ [(x, y)] := by
  rw [mvUpto, if_neg h1, if_neg h2, getD_at hk]

set_option maxRecDepth 100000 in
set_option maxHeartbeats 3200000 in
theorem moved_any (A : Option Addr) (c : Nat) (ps : List Pk) (at_ next : Nat) (w : World) (ha : Rp w A c ps) (hlen : ps.length ≤ 999999) (hat : at_ < next) (hnl : next < ps.length) (hnx : Hid (laterOf ps at_ = (next : Int))) (hfine : Fine (mvOf ps at_ next)) :
    Calls Try.prog 51 #[.slice A ps.length c, .int .i64 at_] w (RetPks w (joinedOf (mvOf ps at_ next))) := by
  go_enter Try.func51, Try.ntmps51
  go_wp2_with (go_at_call 50; refine (later_any A c ps at_ w ha (by omega)).mono ?_; rw [hnx.out]; rintro e w' ⟨rfl, n, rfl⟩)
  go_loopw [6, 14] (fun v i wr => ∃ k : Nat, k ≤ ps.length ∧ i = .int .i64 k ∧ GathP w (mvUpto ps at_ next k) v wr) (fun _ i _ => ps.length - (intOf i).toNat)
  case atStart => exact ⟨0, Nat.zero_le _, rfl, none, 0, by simp [mvUpto], by simpa [mvUpto, flat] using World.ownsRow_nil (w.drewN n) w.heap.size 43 2, (Fr.refl _ _).drewN n⟩
  case round =>
    obtain ⟨k, hk, rfl, A1, c1, rfl, hown, hf⟩ := hrel
    have hml := mv_len (l := ps) hat k
    have hml' : (mvUpto ps at_ next k).length ≤ k + 1 := by
      (repeat' split at hml) <;> omega
    clear hml
    by_cases hlt : k < ps.length
    · obtain ⟨b1, o1, x, y, rfl, hx, hc1, hc2⟩ := (ha.fr0 hf).at_ hlt
      by_cases hkn : k = next
      · have d1 : ((k : Int) == (next : Int)) = true := by simp; omega
        have hms : Hid (mvUpto ps at_ next (k + 1) = mvUpto ps at_ next k) := by subst hkn; exact mv_skip
        clear hkn
        generalize mvUpto ps at_ next k = out at *
        go_wp2
        go_roundw
        case rel => 
          refine ⟨k + 1, by omega, by go_num, ?_⟩
          rw [hms.out]
          exact ⟨A1, c1, rfl, hown.alloc _, hf.alloc _⟩
        case measure => simp [intOf]; omega
      · have d1 : ((k : Int) == (next : Int)) = false := by simp; omega
        by_cases hka : k = at_
        · have d2 : ((k : Int) == (at_ : Int)) = true := by simp; omega
          obtain ⟨b2, o2, x', y', hA, hx', hc1', hc2'⟩ := (ha.fr0 hf).at_ hnl
          injection hA with hA
          injection hA with e1 e2
          subst e1 e2
          have hms : Hid (mvUpto ps at_ next (k + 1) = mvUpto ps at_ next k ++ [(x, y)] ++ [(x', y')]) := by subst hka; exact mv_both hx hx' hkn
          clear hkn hka
          generalize mvUpto ps at_ next k = out at *
          go_wp2_with (first | (at_builtin; refine wpList_append_pick rfl (.tmp 22) (.tmp 24) rfl (.slice A1 out.length c1) _ rfl ((hown.alloc _).alloc _) (wr.heap.size + 1) x y rfl (by simp) (by simp) (by omega) (by simp; have := hf.size; omega) ?_; intro A2 c2 w2 hown2 hg2; have hF2 := ((hf.alloc _).alloc _).app ((hown.alloc _).alloc _) (Nat.le_refl _) hg2; have r2 := (ha.fr0 hF2).at0 (by omega); obtain ⟨b3, o3, hA3, r3⟩ := r2; injection hA3 with hA3; injection hA3 with e3 e4; subst e3 e4; have g1 := (r3 next (x', y') hx'.out).1; have g2 := (r3 next (x', y') hx'.out).2; clear r3) | (at_builtin; refine wpList_append_pick rfl (.tmp 29) (.tmp 34) rfl (.slice A2 (out.length + 1) c2) _ rfl (hown2.alloc _) _ x' y' rfl (by simp) (by simp) (by omega) (by simp; have := hF2.size; omega) ?_; intro A3 c3 w3 hown3 hg3))
          go_roundw
          case rel =>
            refine ⟨k + 1, by omega, by go_num, ?_⟩
            have := gathP_more (qs := out ++ [(x, y)] ++ [(x', y')]) (ps := out ++ [(x, y)]) (p := (x', y')) (hF2.alloc _) (by rw [flat_snoc]; exact hown2.alloc _) hg3 (by rw [flat_snoc]; exact hown3) rfl
            rw [hms.out]
            exact this
          case measure => simp [intOf]; omega
        · have d2 : ((k : Int) == (at_ : Int)) = false := by simp; omega
          have hms : Hid (mvUpto ps at_ next (k + 1) = mvUpto ps at_ next k ++ [(x, y)]) := mv_one hx hkn hka
          clear hkn hka
          generalize mvUpto ps at_ next k = out at *
          go_wp2_with (at_builtin; refine wpList_append_pick rfl (.tmp 22) (.tmp 24) rfl (.slice A1 out.length c1) _ rfl ((hown.alloc _).alloc _) (wr.heap.size + 1) x y rfl (by simp) (by simp) (by omega) (by simp; have := hf.size; omega) ?_; intro A2 c2 w2 hown2 hg2)
          go_roundw
          case rel => exact ⟨k + 1, by omega, by go_num, gathP_more (p := (x, y)) ((hf.alloc _).alloc _) ((hown.alloc _).alloc _) hg2 hown2 hms.out⟩
          case measure => simp [intOf]; omega
    · have hke : k = ps.length := by omega
      have hml2 := hml'
      have hrp := (Rp.of_own hown).2
      subst hke
      have hj := joined_any A1 c1 (mvUpto ps at_ next ps.length) wr hrp (by omega) hfine
      go_wp2_with fail
      refine hj.mono ?_
      rintro e w2 ⟨A2, c2, rfl, hf2, hown2⟩
      go_wp2
      go_ret
      exact ⟨A2, c2, rfl, hf.trans hf2, own_base hown2 hf.size⟩
end Go.Proofs.Ytjpbmbonccenfaa
