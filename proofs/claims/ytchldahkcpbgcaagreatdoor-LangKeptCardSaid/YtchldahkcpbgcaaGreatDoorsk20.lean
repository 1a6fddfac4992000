/- Texts of this seat, one behind the other: CntG. -/
import Derived.Test.YtchldahkcpbgcaaGreatDoorsk4
import Derived.Deep.RegionHeld3
import Derived.BigRegion
namespace Go.Proofs.YtchldahkcpbgcaaGreatDoor
set_option linter.unusedVariables false

/- count, Nodes of the program. -/
section
open Go.RowKit
set_option linter.unusedSimpArgs false
set_option maxRecDepth 20000 in
set_option maxHeartbeats 1600000 in
theorem count_any (n : Nat) : ∀ (S : Nat → Prop) (A : Option Addr) (c : Nat) (l : List Nd) (w : World), LN S n w A c l → cntL l ≤ 1000000000 →
    Calls Tryz.prog 119 #[.slice A l.length c] w (RetV w (.tuple #[.int .i64 (cntL l : Nat), .int .i64 (depL l : Nat)])) := by
  induction n with
  | zero => intro S A c l w h; exact absurd h id
  | succ n ih =>
    intro S A c l w h hb
    have hl1 := h.len
    have hdl := depL_le l
    go_enter Tryz.func119, Tryz.ntmps119
    go_wp2
    go_loopw [2, 3, 12] (fun a d i wr => ∃ k : Nat, k ≤ l.length ∧ i = .int .i64 k ∧ a = .int .i64 (cntL (l.take k) : Nat) ∧ d = .int .i64 (depL (l.take k) : Nat) ∧ Fr [] w wr) (fun _ _ i _ => l.length - (intOf i).toNat)
    case atStart => exact ⟨0, Nat.zero_le _, rfl, rfl, rfl, Fr.refl _ _⟩
    case round =>
      obtain ⟨k, hk, rfl, rfl, rfl, hf⟩ := hrel
      by_cases hlt : k < l.length
      · obtain ⟨b, off, x, ⟨As, cs, Ap, cp, Ab, cb, Ae, ce⟩, rfl, hx, hN, hH, _⟩ := h.at_ hlt
        have c3 := hf.cell hN.c3 (by simp)
        have c5 := hf.cell hN.c5 (by simp)
        have c6 := hf.cell hN.c6 (by simp)
        dsimp only at c3 c5 c6
        have HC := Lib.hid (cntL_take hx)
        have HD := Lib.hid (depL_take hx)
        have hb1 := cntL_take_le l k
        have hb2 := cntL_take_le l (k + 1)
        rw [HC.out] at hb2
        have hb3 := depL_le (l.take k)
        have hd1 := x.dep_le
        generalize cntL (l.take k) = s0 at *
        generalize depL (l.take k) = d0 at *
        have hS3 := sumTo_3 x
        have hD3 := depTo_3 x
        have hcx := x.cnt_pos
        have HS3 := Lib.hid hS3
        have HD3 := Lib.hid hD3
        clear hS3 hD3
        obtain ⟨V, rfl⟩ : ∃ V, V = wr := ⟨wr, rfl⟩
        go_wp2
        go_region
        go_wp2
        go_loopw [2, 5, 34] (fun a d i wr => ∃ j : Nat, j ≤ 3 ∧ i = .int .i64 j ∧ a = .int .i64 (s0 + 1 + sumTo x j : Nat) ∧ d = .int .i64 (depTo x j : Nat) ∧ Blk wr V.heap.size 43 #[.slice As x.subs.length cs, .slice Ab x.body.length cb, .slice Ae x.els.length ce] ∧ Fr [] w wr) (fun _ _ i _ => 3 - (intOf i).toNat)
        case atStart => exact ⟨0, by omega, rfl, by go_num, rfl, Blk.drew (Blk.new V _ _ _ rfl), frx⟩
        case round =>
          clear c3 c5 c6
          have hfr := hf
          clear hf
          obtain ⟨j, hj, rfl, rfl, rfl, hB, hf⟩ := hrel
          have hsj := sumTo_le x hj
          have hdj := depTo_le x hj
          by_cases hlt3 : j < 3
          · have hsj2 := sumTo_le x (k := j + 1) (by omega)
            have hdj2 := depTo_le x (k := j + 1) (by omega)
            have HS1 : Hid (sumTo x (j + 1) = sumTo x j + cntL (partL x j)) := rfl
            have HD1 : Hid (depTo x (j + 1) = max (depTo x j) (depL (partL x j))) := rfl
            rw [HS1.out] at hsj2
            rw [HD1.out] at hdj2
            obtain ⟨A1, c1, hcell, hL⟩ : ∃ A1 c1, wr.cell? ⟨V.heap.size, j, none⟩ = some (.slice A1 (partL x j).length c1) ∧ LN S n w A1 c1 (partL x j) := by
              match j, hlt3 with
              | 0, _ => exact ⟨As, cs, hB.cell 0 rfl, hH.subs⟩
              | 1, _ => exact ⟨Ab, cb, hB.cell 1 rfl, hH.body⟩
              | 2, _ => exact ⟨Ae, ce, hB.cell 2 rfl, hH.els⟩
            generalize partL x j = l1 at *
            generalize sumTo x j = sj at *
            generalize depTo x j = dj at *
            go_wp2_with fail
            refine (ih S A1 c1 l1 _ (hL.fr0 hf) (by omega)).mono ?_
            rintro e w3 ⟨rfl, hf3⟩
            go_wp2
            go_roundw
            case rel => exact ⟨j + 1, by omega, by go_num, by rw [HS1.out]; go_num, by rw [HD1.out]; congr 1; split <;> omega, hB.fr hf3 (by simp), hf.trans hf3⟩
            case measure => simp [intOf]; omega
          · obtain rfl : j = 3 := by omega
            go_wp2
            go_roundw
            case rel => exact ⟨k + 1, by omega, by go_num, by rw [HC.out, ← HS3.out]; go_num, by rw [HD.out]; congr 1; have := HD3.out; split <;> omega, hf⟩
            case measure => simp [intOf]; omega
      · rw [List.take_of_length_le (by omega)]
        go_wp2
        go_ret2
        exact ⟨rfl, hf⟩
end

end Go.Proofs.YtchldahkcpbgcaaGreatDoor
