/- Texts of this seat, one behind the other: Steps. -/
import Derived.Test.YtjpbmbonccenfaaDoort217
import Derived.DeepKeys
/- steps: how many steps each thread takes. -/
namespace Go.Proofs.YtjpbmbonccenfaaDoor
open Go.RowKit
set_option linter.unusedVariables false

theorem steps_bnd {ps : List Pk} (h : Val ps) (t : Int) : 0 ≤ stepsOf t ps ∧ stepsOf t ps ≤ tot ps := by
  induction ps with
  | nil => simp [stepsOf, tot]
  | cons p ps ih =>
    have := ih fun q hq => h q (by simp [hq])
    have hp := h p (by simp)
    rw [stepsOf_cons]
    simp only [tot, List.map_cons, List.sum_cons] at this ⊢
    split <;> omega
/-- The array of the steps. -/
def stArr (ps : List Pk) : Array Value := ((List.range 8).map fun (t : Nat) => Value.int .i64 (stepsOf t ps)).toArray
theorem stArr_one (ps : List Pk) : (stArr ps).all (·.oneCell') = true := by simp [stArr, Value.oneCell']
theorem stArr_at (ps : List Pk) {t : Nat} (h : t < 8) : (stArr ps)[t]? = some (.int .i64 (stepsOf t ps)) := by
  simp [stArr, h]
theorem stArr_eq {ps qs : List Pk} (h : ∀ t, stepsOf t ps = stepsOf t qs) : stArr ps = stArr qs := by
  unfold stArr; simp [h]
theorem stArr_set {ps : List Pk} {k : Nat} {t : Nat} {y : Int} (hx : Hid (ps[k]? = some ((t : Int), y))) (h : t < 8) : stArr (ps.take (k + 1)) = (stArr (ps.take k)).setIfInBounds t (.int .i64 (stepsOf t (ps.take k) + y)) := by
  have e : ∀ u : Int, stepsOf u (ps.take (k + 1)) = stepsOf u (ps.take k) + (if (t : Int) = u then y else 0) := fun u => by
    rw [List.take_add_one, hx.out, stepsOf_append]; simp [stepsOf]
  apply Array.ext_getElem?
  intro i
  by_cases hi : i < 8
  · rw [stArr_at _ hi]
    by_cases hti : t = i
    · subst hti
      rw [Array.getElem?_setIfInBounds_self_of_lt (by simpa [stArr] using hi), e]; simp
    · rw [Array.getElem?_setIfInBounds_ne hti, stArr_at _ hi, e, if_neg (by omega)]; simp
  · rw [Array.getElem?_eq_none (by simp [stArr]; omega), Array.getElem?_eq_none (by simp [stArr]; omega)]

theorem Fr.setRow {S : List Nat} {a w : World} {g : Nat} (h : Fr S a w) (hg : g ∈ S ∨ a.heap.size ≤ g) (cs : Array Value) : Fr S a (w.setRow g cs) :=
  ⟨h.os, h.tape, h.output, by rw [size_setRow]; exact h.size, fun k hk hm => by
    rw [setRow_other _ _ _ _ (fun e => by subst e; rcases hg with hg | hg; exact hm hg; omega)]
    exact h.block k hk hm⟩
set_option maxHeartbeats 1600000 in
theorem steps_any (A : Option Addr) (c : Nat) (ps : List Pk) (w : World) (ha : Rp w A c ps) (hv : Val ps) (ht : tot ps ≤ 65536) :
    Calls Tryd.prog 37 #[.slice A ps.length c] w (fun e w' => e = .returned (.agg (stArr ps)) ∧ Fr [] w w') := by
  have hb := ha.bound
  go_enter Tryd.func37, Tryd.ntmps37
  go_wp2
  go_loopw [4] (fun i wr => ∃ k : Nat, k ≤ ps.length ∧ i = .int .i64 k ∧ (∃ cs, Blk wr w.heap.size 55 cs ∧ cs.size = 8) ∧ Blk wr (w.heap.size + 1) 55 (stArr (ps.take k)) ∧ Fr [] w wr) (fun i _ => ps.length - (intOf i).toNat)
  case atStart =>
    refine ⟨0, Nat.zero_le _, rfl, ⟨_, (Blk.new w 55 (Array.replicate 8 (.int .i64 0)) _ rfl).alloc _, rfl⟩, ?_, ((Fr.refl _ _).alloc _).alloc _⟩
    exact Blk.new (w.alloc (.cells (Array.replicate 8 (.int .i64 0)) 55)) 55 (Array.replicate 8 (.int .i64 0)) _ (by simp)
  case round =>
    obtain ⟨k, hk, rfl, ⟨cs, hb1, hcs⟩, hb2, hf⟩ := hrel
    by_cases hlt : k < ps.length
    · obtain ⟨b1, o1, x, y, rfl, hx, hc1, hc2⟩ := (ha.fr0 hf).at_ hlt
      have hxv := hv (x, y) (List.mem_of_getElem? hx.out)
      obtain ⟨t, rfl⟩ : ∃ t : Nat, x = t := ⟨x.toNat, by have := hxv.1; simp at this; omega⟩
      have ht8 : t < 8 := by have := hxv.2.1; simp at this; omega
      have hst := Lib.hid (stArr_set hx ht8)
      have hbn := steps_bnd (ps := ps.take k) (fun p hp => hv p (List.mem_of_mem_take hp)) t
      have hbn2 := steps_bnd (ps := ps.take (k + 1)) (fun p hp => hv p (List.mem_of_mem_take hp)) t
      have htk := tot_take_le (fun p hp => by have := hv p hp; omega) (ps := ps) k
      have hy : y ≤ 65536 := by
        have := tot_mem_le (fun p hp => by have := hv p hp; omega) (List.mem_of_getElem? hx.out)
        simp at this; omega
      have hy0 : 1 ≤ y := hxv.2.2
      have c0 := hb2.cell t (stArr_at _ ht8)
      have c1 := hb2.frozen t
      generalize stepsOf t (ps.take k) = s at *
      generalize stArr (ps.take k) = ar at *
      clear hbn2 hxv
      have d1 : decide (0 ≤ (t : Int)) = true := by simp
      have d2 : decide ((t : Int) < 8) = true := by simp; omega
      go_wp2
      go_region
      go_wp2
      go_roundw
      case rel => exact ⟨k + 1, by omega, by go_num, ⟨cs, hb1.far (by simp) _, hcs⟩, by rw [hst.out]; exact hb2.set_ t _, (hf.setCell (p := ⟨w.heap.size + 1, t, none⟩) (.inr (by show w.heap.size ≤ w.heap.size + 1; omega)) _).drew⟩
      case measure => simp [intOf]; omega
    · rw [List.take_of_length_le (by omega)] at hb2
      have hx : (Tryd.prog.info? 55).map (·.size) = some (stArr ps).size := by simp only [stArr, List.size_toArray, List.length_map, List.length_range]; kernel_rfl
      go_wp2_with (first
        | (refine wpList_load_row rfl 55 _ rfl (w.heap.size + 1) rfl 55 _ (0, 0) _ hb2 Tryd.underlying55 rfl hx ?_)
        | (refine wpList_store_row rfl 55 _ _ rfl w.heap.size (stArr ps) rfl rfl 55 cs hb1 hx (by rw [hcs]; simp [stArr]) (stArr_one ps) ?_))
      refine bodyPost_ret (results_cell_row rfl _ _ w.heap.size 55 (stArr ps) (0, 0) _ rfl (setRow_heap _ _ _ _ _ _ hb1) Tryd.underlying55 rfl hx) rfl ?_
      exact ⟨rfl, hf.setRow (.inr (Nat.le_refl _)) _⟩

theorem keyLits_arr (ps : List Pk) (h : ∀ t, 0 ≤ stepsOf t ps ∧ stepsOf t ps ≤ 65536) : Tryd.prog.keyLits 2 55 (stArr ps).toList = some ((List.range 8).map fun (t : Nat) => Lit.int .i64 (stepsOf t ps)) := by
  have h1 : Tryd.prog.cellsOf 3 = 1 := by kernel_rfl
  have key : ∀ i, i < 8 → Tryd.prog.keyLits 1 3 (((stArr ps).toList.drop (i * 1)).take 1) = some [Lit.int .i64 (stepsOf i ps)] := by
    intro i hi
    have e : ((stArr ps).toList.drop (i * 1)).take 1 = [.int .i64 (stepsOf i ps)] := by
      have := stArr_at ps hi
      rw [← Array.getElem?_toList] at this
      rw [Nat.mul_one, List.take_one, List.head?_drop, this]; rfl
    rw [e]
    unfold Program.keyLits
    simp only [Tryd.underlying3]
    have := h i
    rw [if_pos ⟨trivial, by simp [Lit.wf, IntKind.min, IntKind.max, IntKind.signed, IntKind.bits]; omega⟩]
  unfold Program.keyLits
  simp only [Tryd.underlying55]
  rw [if_pos (by simp only [stArr, List.length_map, List.length_range]; kernel_rfl), h1]
  have : ((List.range 8).mapM fun i => Tryd.prog.keyLits 1 3 (((stArr ps).toList.drop (i * 1)).take 1)) = some ((List.range 8).map fun (t : Nat) => [Lit.int .i64 (stepsOf t ps)]) := by
    show (List.mapM _ [0, 1, 2, 3, 4, 5, 6, 7]) = _
    simp only [List.mapM_cons, List.mapM_nil, key 0 (by omega), key 1 (by omega), key 2 (by omega), key 3 (by omega), key 4 (by omega), key 5 (by omega), key 6 (by omega), key 7 (by omega)]
    rfl
  rw [this]
  rfl
theorem run_arr_neq (ps : List Pk) (h : ∀ t, 0 ≤ stepsOf t ps ∧ stepsOf t ps ≤ 65536) (w : World) : (binOp .neq 55 (.agg (stArr ps)) (.agg (stArr ps))).run Tryd.prog w = .ok (.bool false) w := by
  have hk : Tryd.prog.keyTypeAt 2 55 = true := by kernel_rfl
  have hl := keyLits_arr ps h
  have hfm : (Value.agg (stArr ps)).formed Tryd.prog 55 = true := by
    simp only [Value.formed, Tryd.underlying55]
    have : (stArr ps).size = 8 := by simp [stArr]
    have h8 : Tryd.prog.cellsOf 55 = 8 := by kernel_rfl
    simp [this, h8]
  obtain ⟨r, hr, hiff⟩ := run_equalIn_deep (P := Tryd.prog) 9998 2 55 hk w 2 2 (.agg (stArr ps)) (.agg (stArr ps)) _ _ hfm hfm hl hl
  rw [hiff.2 rfl] at hr
  rw [run_neq_struct, show (10000 : Nat) = 9998 + 2 from rfl, hr]
  rfl
end Go.Proofs.YtjpbmbonccenfaaDoor
