/- Normal, Preemptions. -/
import Derived.Test.YtjpbmbonccenfaaPick3
namespace Go.Proofs.Ytjpbmbonccenfaa
open Go.RowKit
set_option linter.unusedVariables false

/-- The first error of a schedule, so many steps having been counted. -/
def checkP : Int → List Pk → Int
  | _, [] => 0
  | s, p :: ps => if p.1 < 0 ∨ 8 ≤ p.1 ∨ p.2 < 1 then 1 else if 65536 - s < p.2 then 3 else checkP (s + p.2) ps
/-- Normal. -/
def normal (ps : List Pk) : List Pk × Int := if checkP 0 ps = 0 then (joinedOf ps, 0) else ([], checkP 0 ps)

theorem check_at {ps : List Pk} {k : Nat} {x y : Int} (h : Hid (ps[k]? = some (x, y))) (s : Int) : checkP s (ps.drop k) = if x < 0 ∨ 8 ≤ x ∨ y < 1 then 1 else if 65536 - s < y then 3 else checkP (s + y) (ps.drop (k + 1)) := by
  have hk : k < ps.length := (List.getElem?_eq_some_iff.1 h.out).1
  have he : ps[k] = (x, y) := (List.getElem?_eq_some_iff.1 h.out).2
  rw [List.drop_eq_getElem_cons hk, he, checkP]
theorem check_fine : ∀ (ps : List Pk) (s : Int), checkP s ps = 0 → s ≤ 65536 → (∀ p ∈ ps, 0 ≤ p.1 ∧ p.1 < 8 ∧ 1 ≤ p.2) ∧ s + tot ps ≤ 65536
  | [], s, _, hs => ⟨by simp, by simpa [tot] using hs⟩
  | p :: ps, s, h, hs => by
    rw [checkP] at h
    split at h
    · cases h
    · split at h
      · cases h
      · rename_i h1 h2
        have := check_fine ps (s + p.2) h (by omega)
        refine ⟨fun q hq => ?_, ?_⟩
        · rcases List.mem_cons.1 hq with rfl | hq
          · omega
          · exact this.1 q hq
        · have h3 := this.2
          simp only [tot, List.map_cons, List.sum_cons] at h3 ⊢
          omega
theorem fine_of_check {ps : List Pk} (h : checkP 0 ps = 0) : Fine ps := by
  have := check_fine ps 0 h (by omega)
  exact ⟨fun p hp => by have := this.1 p hp; omega, by omega⟩

/-- The call returns a schedule of its own and an error. -/
def RetNorm (w : World) (r : List Pk × Int) (e : Ending) (w' : World) : Prop :=
  ∃ A c, e = .returned (.tuple #[.slice A r.1.length c, .int .i64 r.2]) ∧ Fr [] w w' ∧ w'.ownsRow w.heap.size 43 2 (.slice A r.1.length c) r.1.length (flat r.1)
theorem RetNorm.err {w w1 : World} {ps : List Pk} {er : Int} (hf : Fr [] w w1) (h : Hid (checkP 0 ps = er)) (he : er ≠ 0) : RetNorm w (normal ps) (.returned (.tuple #[.slice none 0 0, .int .i64 er])) w1 := by
  have : normal ps = ([], er) := by unfold normal; rw [h.out, if_neg he]
  rw [this]
  exact ⟨none, 0, rfl, hf, by simpa [flat] using World.ownsRow_nil w1 w.heap.size 43 2⟩

set_option maxHeartbeats 1600000 in
theorem Normal_any (A : Option Addr) (c : Nat) (ps : List Pk) (w : World) (ha : Rp w A c ps) (hlen : ps.length ≤ 1000000) :
    Calls Try.prog 16 #[.slice A ps.length c] w (RetNorm w (normal ps)) := by
  go_enter Try.func16, Try.ntmps16
  go_wp2
  go_loopw [4, 9] (fun v i wr => ∃ (k : Nat) (s : Int), k ≤ ps.length ∧ i = .int .i64 k ∧ v = .int .i64 s ∧ 0 ≤ s ∧ s ≤ 65536 ∧ Hid (checkP 0 ps = checkP s (ps.drop k)) ∧ Fr [] w wr) (fun _ i _ => ps.length - (intOf i).toNat)
  case atStart => exact ⟨0, 0, Nat.zero_le _, rfl, rfl, by omega, by omega, by show _ = _; simp, Fr.refl _ _⟩
  case round =>
    obtain ⟨k, s, hk, rfl, rfl, hs0, hs1, hck, hf⟩ := hrel
    by_cases hlt : k < ps.length
    · obtain ⟨b1, o1, x, y, rfl, hx, hc1, hc2⟩ := (ha.fr0 hf).at_ hlt
      have hca := check_at hx s
      by_cases h1 : x < 0
      · rw [if_pos (by omega)] at hca
        have HC : Hid (checkP 0 ps = 1) := hck.out.trans hca
        have d1 : decide (x < 0) = true := by simpa using h1
        clear hca hck
        go_wp2
        go_ret2
        exact RetNorm.err (hf.alloc _) HC (by omega)
      · have d1 : decide (x < 0) = false := by simpa using h1
        by_cases h2 : 8 ≤ x
        · rw [if_pos (by omega)] at hca
          have HC : Hid (checkP 0 ps = 1) := hck.out.trans hca
          have d2 : decide (8 ≤ x) = true := by simpa using h2
          clear hca hck
          go_wp2
          go_ret2
          exact RetNorm.err (hf.alloc _) HC (by omega)
        · have d2 : decide (8 ≤ x) = false := by simpa using h2
          by_cases h3 : y < 1
          · rw [if_pos (by omega)] at hca
            have HC : Hid (checkP 0 ps = 1) := hck.out.trans hca
            have d3 : decide (y < 1) = true := by simpa using h3
            clear hca hck
            go_wp2
            go_ret2
            exact RetNorm.err (hf.alloc _) HC (by omega)
          · have d3 : decide (y < 1) = false := by simpa using h3
            rw [if_neg (by omega)] at hca
            by_cases h4 : 65536 - s < y
            · rw [if_pos h4] at hca
              have HC : Hid (checkP 0 ps = 3) := hck.out.trans hca
              clear hca hck
              go_wp2
              go_ret2
              exact RetNorm.err (hf.alloc _) HC (by omega)
            · rw [if_neg h4] at hca
              have HC : Hid (checkP 0 ps = checkP (s + y) (ps.drop (k + 1))) := hck.out.trans hca
              clear hca hck
              go_wp2
              go_roundw
              case rel => exact ⟨k + 1, s + y, by omega, by go_num, rfl, by omega, by omega, HC, hf.alloc _⟩
              case measure => simp [intOf]; omega
    · have HC : Hid (checkP 0 ps = 0) := by
        show _ = _
        rw [hck.out, List.drop_of_length_le (by omega), checkP]
      clear hck
      go_wp2_with fail
      refine (joined_any A c ps _ (ha.fr0 hf) hlen (fine_of_check HC.out)).mono ?_
      rintro e w2 ⟨A2, c2, rfl, hf2, hown2⟩
      go_wp2
      go_ret2
      rw [show normal ps = (joinedOf ps, 0) by unfold normal; rw [if_pos HC.out]]
      exact ⟨A2, c2, rfl, hf.trans hf2, own_base hown2 hf.size⟩

/-- The preemptions of a normal form. -/
def preemptAt (ps : List Pk) (k : Nat) : Bool := decide (0 ≤ laterOf ps k)
def preempts (ps : List Pk) : List Int := ((List.range ps.length).filter (preemptAt ps)).map fun (k : Nat) => (k : Int)
def preUpto (ps : List Pk) (k : Nat) : List Int := ((List.range k).filter (preemptAt ps)).map fun (k : Nat) => (k : Int)
theorem pre_yes {ps : List Pk} {k : Nat} (h : 0 ≤ laterOf ps k) : preUpto ps (k + 1) = preUpto ps k ++ [(k : Int)] := by
  simp [preUpto, List.range_succ, List.filter_append, preemptAt, h]
theorem pre_no {ps : List Pk} {k : Nat} (h : ¬ 0 ≤ laterOf ps k) : preUpto ps (k + 1) = preUpto ps k := by
  simp [preUpto, List.range_succ, List.filter_append, preemptAt, h]
theorem pre_le (ps : List Pk) (k : Nat) : (preUpto ps k).length ≤ k := by
  unfold preUpto
  rw [List.length_map]
  exact Nat.le_trans (List.length_filter_le _ _) (by simp)
/-- Preemptions. -/
def preemptions (ps : List Pk) : List Int × Int := if (normal ps).2 = 0 then (preempts (normal ps).1, 0) else ([], (normal ps).2)

/-- The call returns numbers of its own and an error. -/
def RetNums (w : World) (r : List Int × Int) (e : Ending) (w' : World) : Prop :=
  ∃ A c, e = .returned (.tuple #[.slice A r.1.length c, .int .i64 r.2]) ∧ Fr [] w w' ∧ w'.ownsRow w.heap.size 3 1 (.slice A r.1.length c) r.1.length (r.1.map (.int .i64))
theorem RetNums.err {w w1 : World} {r : List Int × Int} {er : Int} (hf : Fr [] w w1) (h : r = ([], er)) : RetNums w r (.returned (.tuple #[.slice none 0 0, .int .i64 er])) w1 := by
  subst h
  exact ⟨none, 0, rfl, hf, by simpa using World.ownsRow_nil w1 w.heap.size 3 1⟩
theorem RetNums.ok {w w1 : World} {r : List Int × Int} {er : Int} {n c : Nat} {A : Option Addr} {zs : List Int} (hf : Fr [] w w1) (ho : w1.ownsRow w.heap.size 3 1 (.slice A n c) n (zs.map (.int .i64))) (h : r = (zs, er)) : RetNums w r (.returned (.tuple #[.slice A n c, .int .i64 er])) w1 := by
  subst h
  obtain ⟨hn, _⟩ := Rd.of_own ho
  subst hn
  exact ⟨A, c, rfl, hf, ho⟩

theorem normal_len (ps : List Pk) : (normal ps).1.length ≤ ps.length := by
  unfold normal
  split
  · rename_i h
    exact (joined_facts ps (fine_of_check h).1).2.2
  · simp

set_option maxHeartbeats 1600000 in
theorem Preemptions_any (A : Option Addr) (c : Nat) (ps : List Pk) (w : World) (ha : Rp w A c ps) (hlen : ps.length ≤ 1000000) :
    Calls Try.prog 19 #[.slice A ps.length c] w (RetNums w (preemptions ps)) := by
  go_enter Try.func19, Try.ntmps19
  go_wp2_with fail
  refine (Normal_any A c ps w ha hlen).mono ?_
  rintro e w2 ⟨A2, c2, rfl, hf2, hown2⟩
  have hnl := normal_len ps
  by_cases he : (normal ps).2 = 0
  · have heb : ((normal ps).2 != 0) = false := by simp [he]
    have hpr := Lib.hid (show preemptions ps = (preempts (normal ps).1, 0) by unfold preemptions; rw [if_pos he])
    have hr := (Rp.of_own hown2).2
    have HE := Lib.hid he
    clear he hown2
    generalize (normal ps).1 = ns at *
    generalize (normal ps).2 = er at *
    go_wp2
    go_loopw [5, 17] (fun v i wr => ∃ k : Nat, k ≤ ns.length ∧ i = .int .i64 k ∧ Gath w2 3 ((preUpto ns k).map (.int .i64)) v wr) (fun _ i _ => ns.length - (intOf i).toNat)
    case atStart => exact ⟨0, Nat.zero_le _, rfl, Gath.start _ _ (by simp [preUpto])⟩
    case round =>
      obtain ⟨k, hk, rfl, A1, c1, rfl, hown, hf⟩ := hrel
      simp only [List.length_map] at hown
      have hpl := pre_le ns k
      by_cases hlt : k < ns.length
      · by_cases hl : 0 ≤ laterOf ns k
        · have hd : decide (0 ≤ laterOf ns k) = true := by simpa using hl
          go_wp2_with (first
            | (at_builtin
               refine wpList_append_rd rfl (.tmp 24) (.tmp 26) _ rfl elemInts (.slice A1 (preUpto ns k).length c1) _ rfl (own_drewN (hown.alloc _) _) _ _ [(k : Int)] (.int .i64) rfl ((Rd.one _ _ _ _).drewN _) one_i64 (by simp; omega) (by simp; have := hf.size; omega) ?_
               intro A4 c4 w4 hown4 hg4 hat4)
            | (go_at_call 50; refine (later_any _ _ ns k _ (hr.fr0 hf) hlt).mono ?_; rintro e w' ⟨rfl, n, rfl⟩))
          go_roundw
          case rel => exact ⟨k + 1, by omega, by go_num, Gath.snoc ((hf.alloc _).drewN n) (own_drewN (hown.alloc _) _) hg4 hown4 (by rw [pre_yes hl]; simp)⟩
          case measure => simp [intOf]; omega
        · have hd : decide (0 ≤ laterOf ns k) = false := by simpa using hl
          go_wp2_with (go_at_call 50; refine (later_any _ _ ns k _ (hr.fr0 hf) hlt).mono ?_; rintro e w' ⟨rfl, n, rfl⟩)
          go_roundw
          case rel => exact ⟨k + 1, by omega, by go_num, Gath.same (hf.drewN n) (own_drewN hown _) (by rw [pre_no (by omega)])⟩
          case measure => simp [intOf]; omega
      · go_wp2
        go_ret2
        exact RetNums.ok (zs := preUpto ns k) (hf2.trans hf) (own_base (by simpa using hown) hf2.size) (by rw [hpr.out, show k = ns.length by omega]; rfl)
  · have heb : ((normal ps).2 != 0) = true := by simpa using he
    have hpr := Lib.hid (show preemptions ps = ([], (normal ps).2) by unfold preemptions; rw [if_neg he])
    clear he
    go_wp2
    go_ret2
    exact RetNums.err hf2 hpr.out
end Go.Proofs.Ytjpbmbonccenfaa
