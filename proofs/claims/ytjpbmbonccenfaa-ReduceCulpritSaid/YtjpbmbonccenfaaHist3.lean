/- wide; Ancestors of the program and the reference. -/
import Derived.Test.YtjpbmbonccenfaaPlus
namespace Go.Proofs.Ytjpbmbonccenfaa
open Go.RowKit
set_option linter.unusedVariables false

/-- The call tells whether a history is too great. -/
def RetWide (w : World) (L : List (List Int)) (e : Ending) (w' : World) : Prop :=
  ∃ b : Bool, e = .returned (.bool b) ∧ Fr [] w w' ∧ (b = false → L.length ≤ 30 ∨ 256 < L.length)
set_option maxRecDepth 100000 in
set_option maxHeartbeats 1600000 in
theorem wide_any (A : Option Addr) (c : Nat) (L : List (List Int)) (w : World) (ha : Rss w A c L) :
    Calls Try.prog 28 #[.agg #[.slice A L.length c]] w (RetWide w L) := by
  have hbd := ha.bound
  go_enter Try.func28, Try.ntmps28
  go_wp2
  have hf0 : Fr [] w (w.alloc (.cells #[.slice A L.length c] 57)) := (by repeat (first | exact Fr.refl _ _ | assumption | apply Fr.drewN | apply Fr.drew | apply Fr.alloc | refine Fr.setCell ?_ (by simp) _))
  have hb0 := Blk.new w 57 #[.slice A L.length c] _ rfl
  generalize w.alloc (.cells #[.slice A L.length c] 57) = w1 at hf0 hb0 ⊢
  have q0 := hb0.cell 0 rfl
  go_loop [3, 4] (fun nv i => ∃ (k : Nat) (n : Int), k ≤ L.length ∧ k ≤ 40 ∧ i = .int .i64 k ∧ nv = .int .i64 n ∧ 0 ≤ n ∧ n ≤ 300 * k) (fun _ i => L.length - (intOf i).toNat)
  case atStart => exact ⟨0, 0, by omega, by omega, rfl, rfl, by omega, by omega⟩
  case round =>
    obtain ⟨k, n, hk, hk40, rfl, rfl, hn0, hn1⟩ := hrel
    by_cases hlt : k < L.length
    · by_cases h40 : k < 40
      · have d1 : decide (k < L.length) = true := by simpa using hlt
        have d2 : decide ((k : Int) < 40) = true := by simp; omega
        have d2' : decide (k < 40) = true := by simpa using h40
        obtain ⟨b1, o1, l, A1, c1, rfl, hl, hc1, hr1⟩ := (ha.fr0 hf0).at_ hlt
        have hlb := hr1.bound
        obtain ⟨q, hq⟩ : ∃ q, (if (300 : Int) < l.length then (300 : Int) else l.length) = q := ⟨_, rfl⟩
        have hq2 : 0 ≤ q ∧ q ≤ 300 := by rw [← hq]; split <;> omega
        go_wp2_with fail
        go_round
        case rel => exact ⟨k + 1, n + q, by omega, by omega, by go_num, rfl, by omega, by omega⟩
        case measure => simp [intOf]; omega
      · have d1 : decide (k < L.length) = true := by simpa using hlt
        have d2 : decide ((k : Int) < 40) = false := by simp; omega
        have d2' : decide (k < 40) = false := by simpa using h40
        by_cases h30 : L.length ≤ 30
        · exfalso; omega
        · by_cases h256 : L.length ≤ 256
          · have e1 : decide (30 < (L.length : Int)) = true := by simp; omega
            have e2 : decide ((L.length : Int) ≤ 256) = true := by simp; omega
            go_wp2_with fail
            go_ret
            exact ⟨_, rfl, hf0, fun h => by simp at h⟩
          · have e1 : decide (30 < (L.length : Int)) = true := by simp; omega
            have e2 : decide ((L.length : Int) ≤ 256) = false := by simp; omega
            have hfi : Hid (256 < L.length) := by show _ < _; omega
            by_cases h300 : L.length ≤ 300
            · have e3 : decide (300 < (L.length : Int)) = false := by simp; omega
              clear h300 h256 h30 hlt
              go_wp2_with fail
              exact bodyPost_ret (v := .bool (decide (300 < n))) (by simp [results, Try.results28, go_sem]) rfl ⟨_, rfl, hf0, fun _ => .inr hfi.out⟩
            · have e3 : decide (300 < (L.length : Int)) = true := by simp; omega
              clear h300 h256 h30 hlt
              go_wp2_with fail
              go_ret
              exact ⟨_, rfl, hf0, fun _ => .inr hfi.out⟩
    · have d1 : decide (k < L.length) = false := by simpa using hlt
      by_cases h30 : L.length ≤ 30
      · have e1 : decide (30 < (L.length : Int)) = false := by simp; omega
        have e3 : decide (300 < (L.length : Int)) = false := by simp; omega
        go_wp2_with fail
        exact bodyPost_ret (v := .bool (decide (300 < n))) (by simp [results, Try.results28, go_sem]) rfl ⟨_, rfl, hf0, fun _ => .inl h30⟩
      · by_cases h256 : L.length ≤ 256
        · have e1 : decide (30 < (L.length : Int)) = true := by simp; omega
          have e2 : decide ((L.length : Int) ≤ 256) = true := by simp; omega
          go_wp2_with fail
          go_ret
          exact ⟨_, rfl, hf0, fun h => by simp at h⟩
        · have e1 : decide (30 < (L.length : Int)) = true := by simp; omega
          have e2 : decide ((L.length : Int) ≤ 256) = false := by simp; omega
          have hfi : Hid (256 < L.length) := by show _ < _; omega
          by_cases h300 : L.length ≤ 300
          · have e3 : decide (300 < (L.length : Int)) = false := by simp; omega
            clear h300 h256 h30 hlt
            go_wp2_with fail
            exact bodyPost_ret (v := .bool (decide (300 < n))) (by simp [results, Try.results28, go_sem]) rfl ⟨_, rfl, hf0, fun _ => .inr hfi.out⟩
          · have e3 : decide (300 < (L.length : Int)) = true := by simp; omega
            clear h300 h256 h30 hlt
            go_wp2_with fail
            go_ret
            exact ⟨_, rfl, hf0, fun _ => .inr hfi.out⟩

/-- Ancestors. -/
def ancestorsOf (P : List (List Int)) (v : Int) : List Int × Int :=
  if checkHist P ≠ 0 then ([], checkHist P) else if v < 0 ∨ P.length ≤ v then ([], 1) else (ancOf P [v], 0)

set_option maxRecDepth 100000 in
set_option maxHeartbeats 1600000 in
theorem Ancestors_any (A : Option Addr) (c : Nat) (P : List (List Int)) (v : Int) (w : World) (ha : Rss w A c P) :
    Calls Try.prog 32 #[.agg #[.slice A P.length c], .int .i64 v] w (RetNums w (ancestorsOf P v)) := by
  have hf0 : Fr [] w (w.alloc (.cells #[.slice A P.length c] 57)) := (by repeat (first | exact Fr.refl _ _ | assumption | apply Fr.drewN | apply Fr.drew | apply Fr.alloc | refine Fr.setCell ?_ (by simp) _))
  have hb0 := Blk.new w 57 #[.slice A P.length c] _ rfl
  have hck := CheckHistory_any A c P (w.alloc (.cells #[.slice A P.length c] 57)) (ha.fr0 hf0)
  by_cases h1 : checkHist P = 0
  · have hb1 : (checkHist P != 0) = false := by simp [h1]
    have HV := Lib.hid (valH h1)
    have hn := HV.out.1
    have hR0 : Hid (ancestorsOf P v = if v < 0 ∨ P.length ≤ v then ([], 1) else (ancOf P [v], 0)) := by
      show _ = _
      unfold ancestorsOf
      rw [if_neg (by simp [h1])]
    clear h1
    by_cases h2 : v < 0
    · have hR : Hid (ancestorsOf P v = ([], 1)) := hR0.out.trans (if_pos (.inl h2))
      clear hR0
      go_enter Try.func32, Try.ntmps32
      go_wp2_with fail
      refine hck.mono ?_
      rintro e w1 ⟨rfl, hf1⟩
      have q0 := (hb0.fr hf1 (by simp)).cell 0 rfl
      go_wp2
      go_ret2
      exact RetNums.err (hf0.trans hf1) hR.out
    · obtain ⟨vn, rfl⟩ : ∃ vn : Nat, v = vn := ⟨v.toNat, by omega⟩
      have d2 : decide ((vn : Int) < 0) = false := by simp
      clear h2
      by_cases h3 : P.length ≤ vn
      · have hR : Hid (ancestorsOf P vn = ([], 1)) := hR0.out.trans (if_pos (.inr (by omega)))
        have d3 : decide (P.length ≤ vn) = true := by simpa using h3
        clear hR0 h3
        go_enter Try.func32, Try.ntmps32
        go_wp2_with fail
        refine hck.mono ?_
        rintro e w1 ⟨rfl, hf1⟩
        have q0 := (hb0.fr hf1 (by simp)).cell 0 rfl
        go_wp2
        go_ret2
        exact RetNums.err (hf0.trans hf1) hR.out
      · have hR : Hid (ancestorsOf P vn = (ancOf P [(vn : Int)], 0)) := hR0.out.trans (if_neg (by omega))
        have d3 : decide (P.length ≤ vn) = false := by simpa using h3
        clear hR0
        go_enter Try.func32, Try.ntmps32
        go_wp2_with fail
        refine hck.mono ?_
        rintro e w1 ⟨rfl, hf1⟩
        have q0 := (hb0.fr hf1 (by simp)).cell 0 rfl
        have hF1 := hf0.trans hf1
        go_wp2_with fail
        refine (ancestors_any A c P vn _ (ha.fr0 hF1) HV.out (by omega)).mono ?_
        rintro e w2 ⟨A2, c2, rfl, hf2, ho2⟩
        have hF2 : Fr [] w w2 := Fr.trans (by repeat (first | exact Fr.refl _ _ | assumption | apply Fr.drewN | apply Fr.drew | apply Fr.alloc | refine Fr.setCell ?_ (by simp) _)) hf2
        go_wp2
        go_ret2
        exact RetNums.ok hF2 (own_base ho2 (by first | exact hF1.size | (simp; have := hF1.size; omega))) hR.out
  · have hb1 : (checkHist P != 0) = true := by simpa using h1
    have hR : Hid (ancestorsOf P v = ([], checkHist P)) := by
      show _ = _
      unfold ancestorsOf
      rw [if_pos h1]
    clear h1
    go_enter Try.func32, Try.ntmps32
    go_wp2_with fail
    refine hck.mono ?_
    rintro e w1 ⟨rfl, hf1⟩
    go_wp2
    go_ret2
    exact RetNums.err (hf0.trans hf1) hR.out

set_option maxRecDepth 100000 in
set_option maxHeartbeats 1600000 in
theorem refAncestors_any (A : Option Addr) (c : Nat) (P : List (List Int)) (v : Int) (w : World) (ha : Rss w A c P) :
    Calls Try.prog 30 #[.agg #[.slice A P.length c], .int .i64 v] w (RetNums w (ancestorsOf P v)) := by
  have hf0 : Fr [] w (w.alloc (.cells #[.slice A P.length c] 57)) := (by repeat (first | exact Fr.refl _ _ | assumption | apply Fr.drewN | apply Fr.drew | apply Fr.alloc | refine Fr.setCell ?_ (by simp) _))
  have hb0 := Blk.new w 57 #[.slice A P.length c] _ rfl
  have hck := refCheckHistory_any A c P (w.alloc (.cells #[.slice A P.length c] 57)) (ha.fr0 hf0)
  by_cases h1 : checkHist P = 0
  · have hb1 : (checkHist P != 0) = false := by simp [h1]
    have HV := Lib.hid (valH h1)
    have hn := HV.out.1
    have hR0 : Hid (ancestorsOf P v = if v < 0 ∨ P.length ≤ v then ([], 1) else (ancOf P [v], 0)) := by
      show _ = _
      unfold ancestorsOf
      rw [if_neg (by simp [h1])]
    clear h1
    by_cases h2 : v < 0
    · have hR : Hid (ancestorsOf P v = ([], 1)) := hR0.out.trans (if_pos (.inl h2))
      clear hR0
      go_enter Try.func30, Try.ntmps30
      go_wp2_with fail
      refine hck.mono ?_
      rintro e w1 ⟨rfl, hf1⟩
      have q0 := (hb0.fr hf1 (by simp)).cell 0 rfl
      go_wp2
      go_ret2
      exact RetNums.err (hf0.trans hf1) hR.out
    · obtain ⟨vn, rfl⟩ : ∃ vn : Nat, v = vn := ⟨v.toNat, by omega⟩
      have d2 : decide ((vn : Int) < 0) = false := by simp
      clear h2
      by_cases h3 : P.length ≤ vn
      · have hR : Hid (ancestorsOf P vn = ([], 1)) := hR0.out.trans (if_pos (.inr (by omega)))
        have d3 : decide (P.length ≤ vn) = true := by simpa using h3
        clear hR0 h3
        go_enter Try.func30, Try.ntmps30
        go_wp2_with fail
        refine hck.mono ?_
        rintro e w1 ⟨rfl, hf1⟩
        have q0 := (hb0.fr hf1 (by simp)).cell 0 rfl
        go_wp2
        go_ret2
        exact RetNums.err (hf0.trans hf1) hR.out
      · have hR : Hid (ancestorsOf P vn = (ancOf P [(vn : Int)], 0)) := hR0.out.trans (if_neg (by omega))
        have d3 : decide (P.length ≤ vn) = false := by simpa using h3
        clear hR0
        go_enter Try.func30, Try.ntmps30
        go_wp2_with fail
        refine hck.mono ?_
        rintro e w1 ⟨rfl, hf1⟩
        have q0 := (hb0.fr hf1 (by simp)).cell 0 rfl
        have hF1 := hf0.trans hf1
        go_wp2_with fail
        refine (refancestors_any A _ c 1 P [(vn : Int)] _ (ha.fr0 (by repeat (first | exact Fr.refl _ _ | assumption | apply Fr.drewN | apply Fr.drew | apply Fr.alloc | refine Fr.setCell ?_ (by simp) _))) (Rd.one_cell (by simp)) HV.out (fun x hx => by simp at hx; omega) (by omega)).mono ?_
        rintro e w2 ⟨A2, c2, rfl, hf2, ho2⟩
        have hF2 : Fr [] w w2 := Fr.trans (by repeat (first | exact Fr.refl _ _ | assumption | apply Fr.drewN | apply Fr.drew | apply Fr.alloc | refine Fr.setCell ?_ (by simp) _)) hf2
        go_wp2
        go_ret2
        exact RetNums.ok hF2 (own_base ho2 (by first | exact hF1.size | (simp; have := hF1.size; omega))) hR.out
  · have hb1 : (checkHist P != 0) = true := by simpa using h1
    have hR : Hid (ancestorsOf P v = ([], checkHist P)) := by
      show _ = _
      unfold ancestorsOf
      rw [if_pos h1]
    clear h1
    go_enter Try.func30, Try.ntmps30
    go_wp2_with fail
    refine hck.mono ?_
    rintro e w1 ⟨rfl, hf1⟩
    go_wp2
    go_ret2
    exact RetNums.err (hf0.trans hf1) hR.out
end Go.Proofs.Ytjpbmbonccenfaa
