/- choose: the candidate that divides best; the program's. -/
import Derived.Test.YtjpbmbonccenfaaRAnc
import Derived.Test.YtjpbmbonccenfaaHist2
namespace Go.Proofs.Ytjpbmbonccenfaa
open Go.RowKit
set_option linter.unusedVariables false

theorem withoutN_any (A B : Option Addr) (ca cb : Nat) (xs ys : List Int) (w : World) (ha : Rd w (.int .i64) A ca xs) (hb : Rd w (.int .i64) B cb ys) (hlen : xs.length ≤ 1000000) :
    Calls Try.prog 60 #[.slice A xs.length ca, .slice B ys.length cb] w (RetN w 3 (minus xs ys)) :=
  (without_any A B ca cb xs ys w ha hb hlen).mono fun e w' h => h.n
theorem MinusR_any (A B : Option Addr) (ca cb : Nat) (xs ys : List Int) (w : World) (ha : Rd w (.int .i64) A ca xs) (hb : Rd w (.int .i64) B cb ys) (hlen : xs.length ≤ 1000000) :
    Calls Try.prog 25 #[.slice A xs.length ca, .slice B ys.length cb] w (RetN w 3 (minus xs ys)) :=
  (Minus_any A B ca cb xs ys w ha hb hlen).mono fun e w' h => h.n

/-- The elements of a set that are in another one. -/
def bothL (a b : List Int) : List Int := minus a (minus a b)
theorem both_le (a b : List Int) : (bothL a b).length ≤ a.length := minus_le _ _
theorem mem_both {a b : List Int} {x : Int} : x ∈ bothL a b ↔ x ∈ a ∧ x ∈ b := by
  unfold bothL
  rw [mem_minus, mem_minus]
  constructor
  · rintro ⟨h1, h2⟩
    refine ⟨h1, ?_⟩
    by_cases hb : x ∈ b
    · exact hb
    · exact absurd ⟨h1, hb⟩ h2
  · rintro ⟨h1, h2⟩
    exact ⟨h1, fun h => h.2 h2⟩
theorem both_any (A B : Option Addr) (ca cb : Nat) (xs ys : List Int) (w : World) (ha : Rd w (.int .i64) A ca xs) (hb : Rd w (.int .i64) B cb ys) (hlen : xs.length ≤ 1000000) :
    Calls Try.prog 63 #[.slice A xs.length ca, .slice B ys.length cb] w (RetN w 3 (bothL xs ys)) := by
  go_enter Try.func63, Try.ntmps63
  go_wp2_with fail
  refine (withoutN_any A B ca cb xs ys w ha hb hlen).mono ?_
  rintro e w1 ⟨A1, c1, rfl, hf1, ho1⟩
  go_wp2_with fail
  refine (withoutN_any A A1 ca c1 xs _ w1 (ha.fr0 hf1) (Rd.of_own ho1).2 hlen).mono ?_
  rintro e w2 ⟨A2, c2, rfl, hf2, ho2⟩
  go_wp2
  go_ret
  exact ⟨A2, c2, rfl, hf1.trans hf2, own_base ho2 hf1.size⟩
theorem Both_any (A B : Option Addr) (ca cb : Nat) (xs ys : List Int) (w : World) (ha : Rd w (.int .i64) A ca xs) (hb : Rd w (.int .i64) B cb ys) (hlen : xs.length ≤ 1000000) :
    Calls Try.prog 64 #[.slice A xs.length ca, .slice B ys.length cb] w (RetN w 3 (bothL xs ys)) := by
  go_enter Try.func64, Try.ntmps64
  go_wp2_with fail
  refine (MinusR_any A B ca cb xs ys w ha hb hlen).mono ?_
  rintro e w1 ⟨A1, c1, rfl, hf1, ho1⟩
  go_wp2_with fail
  refine (MinusR_any A A1 ca c1 xs _ w1 (ha.fr0 hf1) (Rd.of_own ho1).2 hlen).mono ?_
  rintro e w2 ⟨A2, c2, rfl, hf2, ho2⟩
  go_wp2
  go_ret
  exact ⟨A2, c2, rfl, hf1.trans hf2, own_base ho2 hf1.size⟩

def chW (P : List (List Int)) (cand : List Int) (v : Int) : Int := min ((bothL cand (ancOf P [v])).length : Int) ((cand.length : Int) - (bothL cand (ancOf P [v])).length)
def chStep (P : List (List Int)) (cand : List Int) (b : Int × Int) (v : Int) : Int × Int := if b.1 < chW P cand v then (chW P cand v, v) else b
/-- The candidate that divides best; -1: there is none. -/
def chooseOf (P : List (List Int)) (cand skip : List Int) : Int := ((minus cand skip).foldl (chStep P cand) (-1, -1)).2
theorem chW_nonneg (P : List (List Int)) (cand : List Int) (v : Int) : 0 ≤ chW P cand v ∧ chW P cand v ≤ cand.length := by
  have := both_le cand (ancOf P [v])
  unfold chW; omega
theorem ch_yes {P : List (List Int)} {cand skip : List Int} {k : Nat} {v : Int} {b : Int × Int} (hx : Hid (cand[k]? = some v)) (hs : v ∉ skip) :
    (minus (cand.take (k + 1)) skip).foldl (chStep P cand) b = chStep P cand ((minus (cand.take k) skip).foldl (chStep P cand) b) v := by
  rw [minus_miss hx hs]; simp
theorem ch_no {P : List (List Int)} {cand skip : List Int} {k : Nat} {v : Int} {b : Int × Int} (hx : Hid (cand[k]? = some v)) (hs : v ∈ skip) :
    (minus (cand.take (k + 1)) skip).foldl (chStep P cand) b = (minus (cand.take k) skip).foldl (chStep P cand) b := by
  rw [minus_hit hx hs]
theorem chFold_bnd {P : List (List Int)} {cand : List Int} : ∀ (xs : List Int) (b : Int × Int), -1 ≤ b.1 → b.1 ≤ cand.length → -1 ≤ (xs.foldl (chStep P cand) b).1 ∧ (xs.foldl (chStep P cand) b).1 ≤ cand.length
  | [], b, h1, h2 => ⟨h1, h2⟩
  | x :: xs, b, h1, h2 => by
    have := chW_nonneg P cand x
    refine chFold_bnd xs _ ?_ ?_ <;> (unfold chStep; split <;> (first | omega | (simp only; omega)))

set_option maxRecDepth 100000 in
set_option maxHeartbeats 1600000 in
theorem choose_any (A B C : Option Addr) (c d f : Nat) (P : List (List Int)) (cand skip : List Int) (w : World) (ha : Rss w A c P) (hb : Rd w (.int .i64) B d cand) (hc : Rd w (.int .i64) C f skip) (hP : ValH P) (hin : InR P.length cand) (hcl : cand.length ≤ 1000000) :
    Calls Try.prog 62 #[.agg #[.slice A P.length c], .slice B cand.length d, .slice C skip.length f] w (RetV w (.int .i64 (chooseOf P cand skip))) := by
  have HP := Lib.hid hP
  have HIN := Lib.hid hin
  clear hP hin
  go_enter Try.func62, Try.ntmps62
  go_wp2
  have hf0 : Fr [] w (w.alloc (.cells #[.slice A P.length c] 57)) := (by repeat (first | exact Fr.refl _ _ | assumption | apply Fr.drewN | apply Fr.alloc | refine Fr.setCell ?_ (by simp) _))
  have hb0 := Blk.new w 57 #[.slice A P.length c] _ rfl
  generalize w.alloc (.cells #[.slice A P.length c] 57) = w1 at hf0 hb0 ⊢
  go_loopw [7, 8, 15] (fun bv av i wr => ∃ (k : Nat) (b a : Int), k ≤ cand.length ∧ i = .int .i64 k ∧ bv = .int .i64 b ∧ av = .int .i64 a ∧ -1 ≤ b ∧ b ≤ cand.length ∧ Hid ((minus (cand.take k) skip).foldl (chStep P cand) (-1, -1) = (b, a)) ∧ Fr [] w1 wr) (fun _ _ i _ => cand.length - (intOf i).toNat)
  case atStart => exact ⟨0, -1, -1, Nat.zero_le _, rfl, rfl, rfl, by omega, by omega, by show _ = _; simp [minus], Fr.refl _ _⟩
  case round =>
    obtain ⟨k, b, a, hk, rfl, rfl, rfl, hb1, hb2, hst, hf⟩ := hrel
    have q0 := (hb0.fr hf (by simp)).cell 0 rfl
    have hF := hf0.trans hf
    by_cases hlt : k < cand.length
    · obtain ⟨b1, o1, v, rfl, hx, hc1⟩ := (hb.fr0 hF).at_ hlt
      have hvr := HIN.out v (List.mem_of_getElem? hx.out)
      obtain ⟨vn, rfl⟩ : ∃ vn : Nat, v = vn := ⟨v.toNat, by omega⟩
      by_cases hs : (vn : Int) ∈ skip
      · have hd : decide ((vn : Int) ∈ skip) = true := by simpa using hs
        have hst' : Hid ((minus (cand.take (k + 1)) skip).foldl (chStep P cand) (-1, -1) = (b, a)) := (ch_no hx hs).trans hst.out
        clear hs hst
        go_wp2_with fail
        refine (has_any C f skip vn _ (hc.fr0 hF)).mono ?_
        rintro e w2 ⟨rfl, n2, rfl⟩
        go_wp2
        go_roundw
        case rel => exact ⟨k + 1, b, a, by omega, by go_num, rfl, rfl, hb1, hb2, hst', hf.drewN _⟩
        case measure => simp [intOf]; omega
      · have hd : decide ((vn : Int) ∈ skip) = false := by simpa using hs
        have hst' : Hid ((minus (cand.take (k + 1)) skip).foldl (chStep P cand) (-1, -1) = chStep P cand (b, a) vn) := by
          show _ = _
          rw [ch_yes hx hs, hst.out]
        clear hs hst
        go_wp2_with fail
        refine (has_any C f skip vn _ (hc.fr0 hF)).mono ?_
        rintro e w2 ⟨rfl, n2, rfl⟩
        go_wp2_with fail
        refine (ancestors_any A c P vn _ (ha.fr0 (hF.drewN _)) HP.out (by omega)).mono ?_
        rintro e w3 ⟨A3, c3, rfl, hf3, ho3⟩
        have hF3 := (hF.drewN n2).trans hf3
        go_wp2_with fail
        refine (both_any _ A3 d c3 cand _ _ (hb.fr0 hF3) (Rd.of_own ho3).2 hcl).mono ?_
        rintro e w4 ⟨A4, c4, rfl, hf4, ho4⟩
        have hf14 : Fr [] w1 w4 := ((hf.drewN n2).trans hf3).trans hf4
        have hble := both_le cand (ancOf P [(vn : Int)])
        have hchw : Hid (chW P cand vn = min ((bothL cand (ancOf P [(vn : Int)])).length : Int) ((cand.length : Int) - (bothL cand (ancOf P [(vn : Int)])).length)) := rfl
        have hcb := chW_nonneg P cand vn
        clear ho4 ho3
        generalize (bothL cand (ancOf P [(vn : Int)])).length = m at *
        obtain ⟨q, hq⟩ : ∃ q, chW P cand vn = q := ⟨_, rfl⟩
        have hif : (if (cand.length : Int) - m < m then (cand.length : Int) - m else m) = q := by
          rw [← hq, hchw.out]; split <;> omega
        rw [hq] at hcb
        have HQ := Lib.hid hq
        clear hq hchw
        by_cases hbq : b < q
        · have hfin : Hid ((minus (cand.take (k + 1)) skip).foldl (chStep P cand) (-1, -1) = (q, (vn : Int))) := by
            show _ = _
            rw [hst'.out]; unfold chStep; rw [HQ.out, if_pos hbq]
          clear hst'
          go_wp2_with fail
          go_roundw
          case rel => exact ⟨k + 1, q, vn, by omega, by go_num, rfl, rfl, by omega, by omega, hfin, hf14⟩
          case measure => simp [intOf]; omega
        · have hfin : Hid ((minus (cand.take (k + 1)) skip).foldl (chStep P cand) (-1, -1) = (b, a)) := by
            show _ = _
            rw [hst'.out]; unfold chStep; rw [HQ.out, if_neg hbq]
          clear hst'
          go_wp2_with fail
          go_roundw
          case rel => exact ⟨k + 1, b, a, by omega, by go_num, rfl, rfl, by omega, by omega, hfin, hf14⟩
          case measure => simp [intOf]; omega
    · go_wp2
      go_ret
      refine ⟨ret_int ?_, hF⟩
      have := hst.out
      rw [List.take_of_length_le (by omega)] at this
      unfold chooseOf
      rw [this]
end Go.Proofs.Ytjpbmbonccenfaa
