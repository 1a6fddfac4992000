/- joined, Normal. -/
import Derived.Test.YtjpbmbonccenfaaPick2
namespace Go.Proofs.Ytjpbmbonccenfaa
open Go.RowKit
set_option linter.unusedVariables false

def joinStep (out : List Pk) (p : Pk) : List Pk :=
  match out.getLast? with
  | some q => if q.1 = p.1 then out.set (out.length - 1) (q.1, q.2 + p.2) else out ++ [p]
  | none => [p]
/-- Picks in which neighbours of one thread are one. -/
def joinedOf (ps : List Pk) : List Pk := ps.foldl joinStep []
def tot (ps : List Pk) : Int := (ps.map (·.2)).sum
/-- Counts from 0 on, their sum not too great. -/
def Fine (ps : List Pk) : Prop := (∀ p ∈ ps, 0 ≤ p.2) ∧ tot ps ≤ 1000000000000

theorem joined_take {ps : List Pk} {k : Nat} {x y : Int} (h : Hid (ps[k]? = some (x, y))) : joinedOf (ps.take (k + 1)) = joinStep (joinedOf (ps.take k)) (x, y) := by
  rw [List.take_add_one, h.out]; simp [joinedOf]
theorem tot_append (a b : List Pk) : tot (a ++ b) = tot a + tot b := by simp [tot]
theorem tot_nonneg {ps : List Pk} (h : ∀ p ∈ ps, 0 ≤ p.2) : 0 ≤ tot ps := by
  induction ps with
  | nil => simp [tot]
  | cons p ps ih =>
    have h1 := h p (by simp)
    have h2 := ih fun q hq => h q (by simp [hq])
    simp only [tot, List.map_cons, List.sum_cons] at h2 ⊢
    omega
theorem tot_take_le {ps : List Pk} (h : ∀ p ∈ ps, 0 ≤ p.2) (k : Nat) : tot (ps.take k) ≤ tot ps := by
  have := tot_append (ps.take k) (ps.drop k)
  rw [List.take_append_drop] at this
  have h2 := tot_nonneg (ps := ps.drop k) fun p hp => h p (List.mem_of_mem_drop hp)
  omega
theorem tot_mem_le {ps : List Pk} (h : ∀ p ∈ ps, 0 ≤ p.2) {q : Pk} (hq : q ∈ ps) : q.2 ≤ tot ps := by
  induction ps with
  | nil => cases hq
  | cons p ps ih =>
    have h1 := h p (by simp)
    have h2 := tot_nonneg (ps := ps) fun q hq => h q (by simp [hq])
    rcases List.mem_cons.1 hq with rfl | hq
    · simp only [tot, List.map_cons, List.sum_cons] at h2 ⊢; omega
    · have := ih (fun q hq => h q (by simp [hq])) hq
      simp only [tot, List.map_cons, List.sum_cons] at this ⊢; omega
theorem joinStep_tot (out : List Pk) (p : Pk) : tot (joinStep out p) = tot out + p.2 := by
  unfold joinStep
  rcases out.eq_nil_or_concat with rfl | ⟨l, q, rfl⟩
  · simp [tot]
  · simp only [List.concat_eq_append, List.getLast?_append, List.getLast?_singleton, Option.some_or]
    split
    · have : (l ++ [q]).set ((l ++ [q]).length - 1) (q.1, q.2 + p.2) = l ++ [(q.1, q.2 + p.2)] := by
        simp
      rw [this]; simp [tot]; omega
    · simp [tot]; omega
theorem joinStep_nonneg {out : List Pk} {p : Pk} (h : ∀ q ∈ out, 0 ≤ q.2) (hp : 0 ≤ p.2) : ∀ q ∈ joinStep out p, 0 ≤ q.2 := by
  unfold joinStep
  rcases out.eq_nil_or_concat with rfl | ⟨l, q, rfl⟩
  · simpa using hp
  · simp only [List.concat_eq_append, List.getLast?_append, List.getLast?_singleton, Option.some_or]
    have hq := h q (by simp)
    split
    · have : (l ++ [q]).set ((l ++ [q]).length - 1) (q.1, q.2 + p.2) = l ++ [(q.1, q.2 + p.2)] := by
        simp
      rw [this]
      intro r hr
      rcases List.mem_append.1 hr with hr | hr
      · exact h r (by simp [hr])
      · simp at hr; subst hr; simp; omega
    · intro r hr
      rcases List.mem_append.1 hr with hr | hr
      · exact h r (by simpa using hr)
      · simp at hr; subst hr; exact hp
theorem joinStep_len (out : List Pk) (p : Pk) : (joinStep out p).length ≤ out.length + 1 := by
  unfold joinStep
  split
  · split <;> simp
  · simp
theorem joined_facts (ps : List Pk) (h : ∀ p ∈ ps, 0 ≤ p.2) : (∀ q ∈ joinedOf ps, 0 ≤ q.2) ∧ tot (joinedOf ps) = tot ps ∧ (joinedOf ps).length ≤ ps.length := by
  have key : ∀ (ps out : List Pk), (∀ p ∈ ps, 0 ≤ p.2) → (∀ q ∈ out, 0 ≤ q.2) → (∀ q ∈ ps.foldl joinStep out, 0 ≤ q.2) ∧ tot (ps.foldl joinStep out) = tot out + tot ps ∧ (ps.foldl joinStep out).length ≤ out.length + ps.length := by
    intro ps
    induction ps with
    | nil => intro out _ ho; exact ⟨ho, by simp [tot], by simp⟩
    | cons p ps ih =>
      intro out hp ho
      have := ih (joinStep out p) (fun q hq => hp q (by simp [hq])) (joinStep_nonneg ho (hp p (by simp)))
      refine ⟨this.1, ?_, ?_⟩
      · rw [List.foldl_cons, this.2.1, joinStep_tot]; simp [tot]; omega
      · have h3 := joinStep_len out p
        have h4 := this.2.2
        simp only [List.foldl_cons, List.length_cons] at h4 ⊢
        omega
  have := key ps [] h (by simp)
  have h0 : tot ([] : List Pk) = 0 := rfl
  exact ⟨this.1, by have := this.2.1; rw [h0, Int.zero_add] at this; exact this, by have := this.2.2; rw [List.length_nil, Nat.zero_add] at this; exact this⟩

/-- What a loop has gathered, of picks. -/
def GathP (w : World) (ps : List Pk) (v : Value) (wr : World) : Prop :=
  ∃ A c, v = .slice A ps.length c ∧ wr.ownsRow w.heap.size 43 2 (.slice A ps.length c) ps.length (flat ps) ∧ Fr [] w wr

theorem join_same {out : List Pk} {p q : Pk} (h : out[out.length - 1]? = some q) (e : q.1 = p.1) : joinStep out p = out.set (out.length - 1) (q.1, q.2 + p.2) := by
  unfold joinStep
  rw [List.getLast?_eq_getElem?, h]
  simp [e]
theorem join_new {out : List Pk} {p q : Pk} (h : out[out.length - 1]? = some q) (e : ¬ q.1 = p.1) : joinStep out p = out ++ [p] := by
  unfold joinStep
  rw [List.getLast?_eq_getElem?, h]
  simp [e]
theorem join_first {out : List Pk} (p : Pk) (h : out.length = 0) : joinStep out p = [p] := by
  obtain rfl := List.eq_nil_of_length_eq_zero h
  rfl

theorem gathP_more {w w1 w2 : World} {v : Value} {n : Nat} {ps qs : List Pk} {p : Pk} {A : Option Addr} {c : Nat} (hf : Fr [] w w1) (h1 : w1.ownsRow w.heap.size 43 2 v n (flat ps)) (hg : w1.grownBy w2 v.ownBlock)
    (h2 : w2.ownsRow w.heap.size 43 2 (.slice A (n + 1) c) (n + 1) (flat ps ++ [.int .i64 p.1, .int .i64 p.2])) (hq : qs = ps ++ [p]) : GathP w qs (.slice A (n + 1) c) w2 := by
  subst hq
  rw [← flat_snoc] at h2
  obtain ⟨hn, _⟩ := Rp.of_own h2
  rw [hn] at h2 ⊢
  exact ⟨A, c, rfl, h2, hf.app h1 (Nat.le_refl _) hg⟩
theorem gathP_set {w w1 w2 : World} {n c : Nat} {ps qs : List Pk} {A : Option Addr} {xs : List Value} (hf : Fr [] w w1) (h1 : w1.ownsRow w.heap.size 43 2 (.slice A n c) n xs) (hq : qs = ps) (hx : xs = flat ps) (hw : w2.heap = w1.heap ∧ w2.os = w1.os ∧ w2.tape = w1.tape ∧ w2.output = w1.output) : GathP w qs (.slice A n c) w2 := by
  subst hq hx
  obtain ⟨hn, _⟩ := Rp.of_own h1
  subst hn
  obtain ⟨e1, e2, e3, e4⟩ := hw
  refine ⟨A, c, rfl, ?_, e2.trans hf.os, e3.trans hf.tape, e4.trans hf.output, by rw [e1]; exact hf.size, fun k hk hm => by rw [e1]; exact hf.block k hk hm⟩
  unfold World.ownsRow at h1 ⊢
  rw [e1]
  exact h1
theorem gathP_ret {w w1 : World} {n c : Nat} {A : Option Addr} {ps qs : List Pk} (hf : Fr [] w w1) (h : w1.ownsRow w.heap.size 43 2 (.slice A n c) n (flat ps)) (hz : qs = ps) : RetPks w qs (.returned (.slice A n c)) w1 := by
  subst hz
  obtain ⟨hn, _⟩ := Rp.of_own h
  subst hn
  exact ⟨A, c, rfl, hf, h⟩

set_option maxHeartbeats 1600000 in
theorem joined_any (A : Option Addr) (c : Nat) (ps : List Pk) (w : World) (ha : Rp w A c ps) (hlen : ps.length ≤ 1000000) (hfine : Fine ps) :
    Calls Try.prog 49 #[.slice A ps.length c] w (RetPks w (joinedOf ps)) := by
  obtain ⟨hnn, htot⟩ := hfine
  go_enter Try.func49, Try.ntmps49
  go_wp2
  go_loopw [3, 9] (fun v i wr => ∃ k : Nat, k ≤ ps.length ∧ i = .int .i64 k ∧ GathP w (joinedOf (ps.take k)) v wr) (fun _ i _ => ps.length - (intOf i).toNat)
  case atStart => exact ⟨0, Nat.zero_le _, rfl, none, 0, by simp [joinedOf], by simpa [joinedOf, flat] using World.ownsRow_nil w w.heap.size 43 2, Fr.refl _ _⟩
  case round =>
    obtain ⟨k, hk, rfl, A1, c1, rfl, hown, hf⟩ := hrel
    by_cases hlt : k < ps.length
    · obtain ⟨b1, o1, x, y, rfl, hx, hc1, hc2⟩ := (ha.fr0 hf).at_ hlt
      have hstep := joined_take hx
      have hnt : ∀ p ∈ ps.take k, 0 ≤ p.2 := fun p hp => hnn p (List.mem_of_mem_take hp)
      have hjf := joined_facts (ps.take k) hnt
      have hy0 : 0 ≤ y := hnn (x, y) (List.mem_of_getElem? hx.out)
      have htk : tot (ps.take (k + 1)) ≤ tot ps := tot_take_le hnn _
      have htk2 : tot (ps.take (k + 1)) = tot (ps.take k) + y := by
        rw [List.take_add_one, hx.out, tot_append]; simp [tot]
      obtain ⟨hj1, hj2, hj3⟩ := hjf
      have hj4 : (ps.take k).length ≤ k := by simp; omega
      generalize joinedOf (ps.take k) = out at *
      have HS := Lib.hid hstep
      have HJ := Lib.hid hj1
      clear hstep hj1 hnt
      have hyB : y ≤ 1000000000000 := by
        have := tot_mem_le hnn (List.mem_of_getElem? hx.out)
        simp at this
        omega
      by_cases hz : out.length = 0
      · have hd : decide (0 < out.length) = false := by simp [hz]
        have hz1 : (out.length : Int) ≤ 0 := by omega
        have HZ := Lib.hid hz
        clear hz
        go_wp2
        go_quiet (fail)
        go_wp2_with (at_builtin; refine wpList_append_pick rfl (.tmp 39) (.tmp 41) rfl (.slice A1 out.length c1) _ rfl (own_drewN ((hown.alloc _).alloc _) _) (wr.heap.size + 1) x y rfl (by simp) (by simp) (by omega) (by simp; have := hf.size; omega) ?_; intro A2 c2 w2 hown2 hg2)
        go_roundw
        case rel =>
          refine ⟨k + 1, by omega, by go_num, gathP_more (p := (x, y)) (((hf.alloc _).alloc _).drewN _) (own_drewN ((hown.alloc _).alloc _) _) hg2 hown2 ?_⟩
          rw [HS.out, join_first _ HZ.out]
          have := List.eq_nil_of_length_eq_zero HZ.out
          simp [this]
        case measure => simp [intOf]; omega
      · have hlast : out[out.length - 1]? = some out[out.length - 1] := List.getElem?_eq_getElem (by omega)
        obtain ⟨g, rfl, hg1, hg2⟩ := own_some hown (by omega)
        have a0 := hown.cellAt ((out.length - 1) * 2) (by omega)
        have a1 := hown.cellAt ((out.length - 1) * 2 + 1) (by omega)
        rw [flat_at0, hlast] at a0
        rw [flat_at1, hlast] at a1
        have a2 := hown.frozenAt ((out.length - 1) * 2 + 1)
        have hq0 := HJ.out _ (List.mem_of_getElem? hlast)
        have hq1 := tot_mem_le HJ.out (List.mem_of_getElem? hlast)
        generalize hq : out[out.length - 1] = q at *
        obtain ⟨q1, q2⟩ := q
        simp only [Option.map_some] at a0 a1
        simp only at hq0 hq1
        have HL := Lib.hid hlast
        clear hlast hq
        have b0 := (World.cell?_alloc_lt wr (.cells #[.int .i64 x, .int .i64 y] 43) ⟨g, (out.length - 1) * 2, none⟩ hg2).trans a0
        have b1' := (World.cell?_alloc_lt wr (.cells #[.int .i64 x, .int .i64 y] 43) ⟨g, (out.length - 1) * 2 + 1, none⟩ hg2).trans a1
        have hd : decide (0 < out.length) = true := by simp; omega
        have hlt' : out.length - 1 < out.length := by omega
        by_cases he : q1 = x
        · have hb : (q1 == x) = true := by simpa using he
          have HE := Lib.hid he
          clear he
          go_wp2
          go_quiet (fail)
          go_wp2
          go_region
          go_wp2
          go_roundw
          case rel =>
            have hst := hown.stored ((out.length - 1) * 2 + 1) (.int .i64 (q2 + y))
            refine ⟨k + 1, by omega, by go_num, gathP_set (ps := out.set (out.length - 1) (q1, q2 + y)) ((hf.setCell (p := ⟨g, (out.length - 1) * 2 + 1, none⟩) (.inr (by have := hf.size; omega)) _).alloc (.cells #[.int .i64 x, .int .i64 y] 43)) (hst.1.alloc _) ?_ ?_ ?_⟩
            · rw [HS.out, join_same HL.out HE.out]
            · rw [flat_set _ _ _ _ HL.out]
            · exact ⟨rfl, rfl, rfl, rfl⟩
          case measure => simp [intOf]; omega
        · have hb : (q1 == x) = false := by simpa using he
          have HE := Lib.hid he
          clear he
          go_wp2
          go_quiet (fail)
          go_wp2_with (at_builtin; refine wpList_append_pick rfl (.tmp 39) (.tmp 41) rfl (.slice (some ⟨g, 0, none⟩) out.length c1) _ rfl (own_drewN ((hown.alloc _).alloc _) _) (wr.heap.size + 1) x y rfl (by simp) (by simp) (by omega) (by simp; have := hf.size; omega) ?_; intro A2 c2 w2 hown2 hg2')
          go_roundw
          case rel =>
            refine ⟨k + 1, by omega, by go_num, gathP_more (p := (x, y)) (((hf.alloc _).alloc _).drewN _) (own_drewN ((hown.alloc _).alloc _) _) hg2' hown2 ?_⟩
            rw [HS.out, join_new HL.out HE.out]
          case measure => simp [intOf]; omega
    · go_wp2
      go_ret
      exact gathP_ret hf hown (by rw [List.take_of_length_le (by omega)])
end Go.Proofs.Ytjpbmbonccenfaa
