/- Texts of this seat, one behind the other: Pick2, Pick3, Pick4, Norm, RNorm, Move, Join, RPre, RNormU. -/
import Derived.Test.YtjpbmbonccenfaaDoort24
import Derived.Laws.StructEq
/- later, SamePicks. -/
namespace Go.Proofs.YtjpbmbonccenfaaDoor
open Go.RowKit
set_option linter.unusedVariables false

/-- The next pick of a thread from place i on: its place; -1: there is none. -/
def laterFrom (t : Int) : Int → List Pk → Int
  | _, [] => -1
  | i, p :: ps => if p.1 = t then i else laterFrom t (i + 1) ps
/-- The next later pick of the thread of the pick at a place. -/
def laterOf (ps : List Pk) (at_ : Nat) : Int := laterFrom (ps.getD at_ (0, 0)).1 (at_ + 1) (ps.drop (at_ + 1))
theorem later_hit {t : Int} {ps : List Pk} {k : Nat} {x y : Int} (h : Hid (ps[k]? = some (x, y))) (e : x = t) (i : Int) : laterFrom t i (ps.drop k) = i := by
  have hk : k < ps.length := (List.getElem?_eq_some_iff.1 h.out).1
  have he : ps[k] = (x, y) := (List.getElem?_eq_some_iff.1 h.out).2
  rw [List.drop_eq_getElem_cons hk, he, laterFrom, if_pos e]
theorem later_miss {t : Int} {ps : List Pk} {k : Nat} {x y : Int} (h : Hid (ps[k]? = some (x, y))) (e : ¬ x = t) (i : Int) : laterFrom t i (ps.drop k) = laterFrom t (i + 1) (ps.drop (k + 1)) := by
  have hk : k < ps.length := (List.getElem?_eq_some_iff.1 h.out).1
  have he : ps[k] = (x, y) := (List.getElem?_eq_some_iff.1 h.out).2
  rw [List.drop_eq_getElem_cons hk, he, laterFrom, if_neg e]
theorem later_end {t : Int} {ps : List Pk} {k : Nat} (h : ps.length ≤ k) (i : Int) : laterFrom t i (ps.drop k) = -1 := by
  rw [List.drop_of_length_le h, laterFrom]

set_option maxHeartbeats 400000 in
theorem later_any (A : Option Addr) (c : Nat) (ps : List Pk) (at_ : Nat) (w : World) (ha : Rp w A c ps) (hat : at_ < ps.length) :
    Calls Tryd.prog 92 #[.slice A ps.length c, .int .i64 (at_ : Nat)] w (RetQ w (.int .i64 (laterOf ps at_))) := by
  have ha1 := ha.bound
  obtain ⟨b0, o0, t, y0, hA, ht, hc0, _⟩ := ha.at_ hat
  have HT : Hid (laterOf ps at_ = laterFrom t (at_ + 1) (ps.drop (at_ + 1))) := by
    show laterOf ps at_ = _
    unfold laterOf
    rw [List.getD_eq_getElem?_getD, ht.out]
    rfl
  go_enter Tryd.func92, Tryd.ntmps92
  go_wp2
  go_loopw [5] (fun i wr => ∃ k : Nat, at_ + 1 ≤ k ∧ k ≤ ps.length ∧ i = .int .i64 k ∧ Hid (laterOf ps at_ = laterFrom t k (ps.drop k)) ∧ ∃ n, wr = w.drewN n) (fun i _ => ps.length - (intOf i).toNat)
  case atStart => exact ⟨at_ + 1, Nat.le_refl _, hat, rfl, HT, 0, rfl⟩
  case round =>
    obtain ⟨k, hk0, hk, rfl, HE, n, rfl⟩ := hrel
    by_cases hlt : k < ps.length
    · obtain ⟨b1, o1, x, y, hA1, hx, hc1, hc2⟩ := ha.at_ hlt
      subst hA
      obtain ⟨rfl, rfl⟩ : b0 = b1 ∧ o0 = o1 := by simpa using hA1
      clear hA1
      by_cases he : x = t
      · have hb : (x == t) = true := by simpa using he
        have hfin := Lib.hid (later_hit hx he k)
        clear he
        go_wp2
        go_quiet (fail)
        go_wp2
        go_ret
        exact ⟨ret_int (by rw [HE.out, hfin.out]), _, by first | rfl | exact World.drewN_drewN ..⟩
      · have hb : (x == t) = false := by simpa using he
        have hfin := Lib.hid (later_miss hx he k)
        clear he
        go_wp2
        go_quiet (fail)
        go_wp2
        go_roundw
        case rel => exact ⟨k + 1, by omega, by omega, by go_num, by show _ = _; rw [HE.out, hfin.out]; rfl, _, by first | rfl | exact World.drewN_drewN ..⟩
        case measure => simp [intOf]; omega
    · have hfin := Lib.hid (later_end (t := t) (ps := ps) (k := k) (by omega) k)
      go_wp2
      go_ret
      exact ⟨ret_int (by rw [HE.out, hfin.out]), _, rfl⟩

theorem takeP_succ_eq {xs ys : List Pk} {k : Nat} {x y x' y' : Int} (h : xs.take k = ys.take k) (hx : Hid (xs[k]? = some (x, y))) (hy : Hid (ys[k]? = some (x', y'))) (e : x = x') (e' : y = y') : xs.take (k + 1) = ys.take (k + 1) := by
  rw [List.take_add_one, List.take_add_one, h, hx.out, hy.out, e, e']
theorem neP_of_at {xs ys : List Pk} {k : Nat} {x y x' y' : Int} (hx : Hid (xs[k]? = some (x, y))) (hy : Hid (ys[k]? = some (x', y'))) (e : ¬ (x = x' ∧ y = y')) : xs ≠ ys := by
  rintro rfl
  exact e (by have := hx.out.symm.trans hy.out; simpa using this)

theorem run_pick_neq (x y x' y' : Int) (w : World) : (binOp .neq 115 (.agg #[.int .i64 x, .int .i64 y]) (.agg #[.int .i64 x', .int .i64 y'])).run Tryd.prog w = .ok (.bool (!(x == x' && y == y'))) w := by
  have hS : Tryd.prog.underlying 115 = some (.struct (Tryd.prog.fieldsOf 115)) := by kernel_rfl
  have hp : Tryd.prog.stoodInHeld 115 = false := by kernel_rfl
  have hI := Tryd.underlying3
  rw [run_neq_struct, show (10000 : Nat) = 9999 + 1 from rfl, run_equalIn_agg w 9999 115 _ _ hS hp]
  simp only [Program.fieldsOf, Tryd.underlying115]
  go_simp
  by_cases h1 : x = x' <;> by_cases h2 : y = y' <;> simp [h1, h2]
set_option maxHeartbeats 400000 in
theorem SamePicks_any (A B : Option Addr) (ca cb : Nat) (xs ys : List Pk) (w : World) (ha : Rp w A ca xs) (hb : Rp w B cb ys) :
    Calls Tryd.prog 46 #[.slice A xs.length ca, .slice B ys.length cb] w (RetQ w (.bool (decide (xs = ys)))) := by
  have ha1 := ha.bound
  have hb1 := hb.bound
  by_cases hl : xs.length = ys.length
  · have hl1 : (xs.length : Int) ≤ ys.length := by omega
    have hl2 : (ys.length : Int) ≤ xs.length := by omega
    have HL := Lib.hid hl
    clear hl
    go_enter Tryd.func46, Tryd.ntmps46
    go_wp2
    go_loopw [5] (fun i wr => ∃ k : Nat, k ≤ xs.length ∧ i = .int .i64 k ∧ Hid (xs.take k = ys.take k) ∧ ∃ n, wr = w.drewN n) (fun i _ => xs.length - (intOf i).toNat)
    case atStart => exact ⟨0, Nat.zero_le _, rfl, by show _ = _; simp, 0, rfl⟩
    case round =>
      obtain ⟨k, hk, rfl, HE, n, rfl⟩ := hrel
      by_cases hlt : k < xs.length
      · obtain ⟨b1, o1, x, y, rfl, hx, hc1, hc2⟩ := ha.at_ hlt
        have hlt2 : k < ys.length := by omega
        obtain ⟨b2, o2, x', y', rfl, hy, hd1, hd2⟩ := hb.at_ hlt2
        have hneq := fun (W : World) => run_pick_neq x y x' y' W
        by_cases he : x = x' ∧ y = y'
        · have hb : (!(x == x' && y == y')) = false := by simp [he.1, he.2]
          have HX := Lib.hid he
          clear he
          rw [hb] at hneq
          go_wp2
          go_quiet (fail)
          go_wp2
          go_roundw
          case rel => exact ⟨k + 1, by omega, by go_num, takeP_succ_eq HE.out hx hy HX.out.1 HX.out.2, _, by first | rfl | exact World.drewN_drewN ..⟩
          case measure => simp [intOf]; omega
        · have hb : (!(x == x' && y == y')) = true := by
            rw [Bool.not_eq_true', Bool.and_eq_false_iff]
            by_cases h1 : x = x'
            · exact .inr (by simpa using fun h2 => he ⟨h1, h2⟩)
            · exact .inl (by simpa using h1)
          have HX := Lib.hid he
          clear he
          rw [hb] at hneq
          go_wp2
          go_quiet (fail)
          go_wp2
          go_ret
          refine ⟨ret_bool ?_, _, World.drewN_drewN ..⟩
          simp [neP_of_at hx hy HX.out]
      · go_wp2
        go_ret
        refine ⟨ret_bool ?_, _, rfl⟩
        have h := HE.out
        have hl := HL.out
        rw [List.take_of_length_le (by omega), List.take_of_length_le (by omega)] at h
        simp [h]
  · have hl1 : ((xs.length : Int) != ys.length) = true := by simp; omega
    have HL := Lib.hid hl
    clear hl
    go_enter Tryd.func46, Tryd.ntmps46
    go_wp2
    go_ret
    refine ⟨ret_bool ?_, 0, rfl⟩
    simp
    intro h
    exact HL.out (by rw [h])
end Go.Proofs.YtjpbmbonccenfaaDoor

/- joined, Normal. -/
namespace Go.Proofs.YtjpbmbonccenfaaDoor
open Go.RowKit
set_option linter.unusedVariables false

def joinStep (out : List Pk) (p : Pk) : List Pk :=
  match out.getLast? with
  | some q => if q.1 = p.1 then out.set (out.length - 1) (q.1, q.2 + p.2) else out ++ [p]
  | none => [p]
/-- Picks in which neighbours of one thread are one. -/
def joinedOf (ps : List Pk) : List Pk := ps.foldl joinStep []
def tot (ps : List Pk) : Int := (ps.map (·.2)).sum
/-- Counts from 0 on, their sum not too great. -/
def Fine (ps : List Pk) : Prop := (∀ p ∈ ps, 0 ≤ p.2) ∧ tot ps ≤ 1000000000000

theorem joined_take {ps : List Pk} {k : Nat} {x y : Int} (h : Hid (ps[k]? = some (x, y))) : joinedOf (ps.take (k + 1)) = joinStep (joinedOf (ps.take k)) (x, y) := by
  rw [List.take_add_one, h.out]; simp [joinedOf]
theorem tot_append (a b : List Pk) : tot (a ++ b) = tot a + tot b := by simp [tot]
theorem tot_nonneg {ps : List Pk} (h : ∀ p ∈ ps, 0 ≤ p.2) : 0 ≤ tot ps := by
  induction ps with
  | nil => simp [tot]
  | cons p ps ih =>
    have h1 := h p (by simp)
    have h2 := ih fun q hq => h q (by simp [hq])
    simp only [tot, List.map_cons, List.sum_cons] at h2 ⊢
    omega
theorem tot_take_le {ps : List Pk} (h : ∀ p ∈ ps, 0 ≤ p.2) (k : Nat) : tot (ps.take k) ≤ tot ps := by
  have := tot_append (ps.take k) (ps.drop k)
  rw [List.take_append_drop] at this
  have h2 := tot_nonneg (ps := ps.drop k) fun p hp => h p (List.mem_of_mem_drop hp)
  omega
theorem tot_mem_le {ps : List Pk} (h : ∀ p ∈ ps, 0 ≤ p.2) {q : Pk} (hq : q ∈ ps) : q.2 ≤ tot ps := by
  induction ps with
  | nil => cases hq
  | cons p ps ih =>
    have h1 := h p (by simp)
    have h2 := tot_nonneg (ps := ps) fun q hq => h q (by simp [hq])
    rcases List.mem_cons.1 hq with rfl | hq
    · simp only [tot, List.map_cons, List.sum_cons] at h2 ⊢; omega
    · have := ih (fun q hq => h q (by simp [hq])) hq
      simp only [tot, List.map_cons, List.sum_cons] at this ⊢; omega
theorem joinStep_tot (out : List Pk) (p : Pk) : tot (joinStep out p) = tot out + p.2 := by
  unfold joinStep
  rcases out.eq_nil_or_concat with rfl | ⟨l, q, rfl⟩
  · simp [tot]
  · simp only [List.concat_eq_append, List.getLast?_append, List.getLast?_singleton, Option.some_or]
    split
    · have : (l ++ [q]).set ((l ++ [q]).length - 1) (q.1, q.2 + p.2) = l ++ [(q.1, q.2 + p.2)] := by
        simp
      rw [this]; simp [tot]; omega
    · simp [tot]; omega
theorem joinStep_nonneg {out : List Pk} {p : Pk} (h : ∀ q ∈ out, 0 ≤ q.2) (hp : 0 ≤ p.2) : ∀ q ∈ joinStep out p, 0 ≤ q.2 := by
  unfold joinStep
  rcases out.eq_nil_or_concat with rfl | ⟨l, q, rfl⟩
  · simpa using hp
  · simp only [List.concat_eq_append, List.getLast?_append, List.getLast?_singleton, Option.some_or]
    have hq := h q (by simp)
    split
    · have : (l ++ [q]).set ((l ++ [q]).length - 1) (q.1, q.2 + p.2) = l ++ [(q.1, q.2 + p.2)] := by
        simp
      rw [this]
      intro r hr
      rcases List.mem_append.1 hr with hr | hr
      · exact h r (by simp [hr])
      · simp at hr; subst hr; simp; omega
    · intro r hr
      rcases List.mem_append.1 hr with hr | hr
      · exact h r (by simpa using hr)
      · simp at hr; subst hr; exact hp
theorem joinStep_len (out : List Pk) (p : Pk) : (joinStep out p).length ≤ out.length + 1 := by
  unfold joinStep
  split
  · split <;> simp
  · simp
theorem joined_facts (ps : List Pk) (h : ∀ p ∈ ps, 0 ≤ p.2) : (∀ q ∈ joinedOf ps, 0 ≤ q.2) ∧ tot (joinedOf ps) = tot ps ∧ (joinedOf ps).length ≤ ps.length := by
  have key : ∀ (ps out : List Pk), (∀ p ∈ ps, 0 ≤ p.2) → (∀ q ∈ out, 0 ≤ q.2) → (∀ q ∈ ps.foldl joinStep out, 0 ≤ q.2) ∧ tot (ps.foldl joinStep out) = tot out + tot ps ∧ (ps.foldl joinStep out).length ≤ out.length + ps.length := by
    intro ps
    induction ps with
    | nil => intro out _ ho; exact ⟨ho, by simp [tot], by simp⟩
    | cons p ps ih =>
      intro out hp ho
      have := ih (joinStep out p) (fun q hq => hp q (by simp [hq])) (joinStep_nonneg ho (hp p (by simp)))
      refine ⟨this.1, ?_, ?_⟩
      · rw [List.foldl_cons, this.2.1, joinStep_tot]; simp [tot]; omega
      · have h3 := joinStep_len out p
        have h4 := this.2.2
        simp only [List.foldl_cons, List.length_cons] at h4 ⊢
        omega
  have := key ps [] h (by simp)
  have h0 : tot ([] : List Pk) = 0 := rfl
  exact ⟨this.1, by have := this.2.1; rw [h0, Int.zero_add] at this; exact this, by have := this.2.2; rw [List.length_nil, Nat.zero_add] at this; exact this⟩

/-- What a loop has gathered, of picks. -/
def GathP (w : World) (ps : List Pk) (v : Value) (wr : World) : Prop :=
  ∃ A c, v = .slice A ps.length c ∧ wr.ownsRow w.heap.size 115 2 (.slice A ps.length c) ps.length (flat ps) ∧ Fr [] w wr

theorem join_same {out : List Pk} {p q : Pk} (h : out[out.length - 1]? = some q) (e : q.1 = p.1) : joinStep out p = out.set (out.length - 1) (q.1, q.2 + p.2) := by
  unfold joinStep
  rw [List.getLast?_eq_getElem?, h]
  simp [e]
theorem join_new {out : List Pk} {p q : Pk} (h : out[out.length - 1]? = some q) (e : ¬ q.1 = p.1) : joinStep out p = out ++ [p] := by
  unfold joinStep
  rw [List.getLast?_eq_getElem?, h]
  simp [e]
theorem join_first {out : List Pk} (p : Pk) (h : out.length = 0) : joinStep out p = [p] := by
  obtain rfl := List.eq_nil_of_length_eq_zero h
  rfl

theorem gathP_more {w w1 w2 : World} {v : Value} {n : Nat} {ps qs : List Pk} {p : Pk} {A : Option Addr} {c : Nat} (hf : Fr [] w w1) (h1 : w1.ownsRow w.heap.size 115 2 v n (flat ps)) (hg : w1.grownBy w2 v.ownBlock)
    (h2 : w2.ownsRow w.heap.size 115 2 (.slice A (n + 1) c) (n + 1) (flat ps ++ [.int .i64 p.1, .int .i64 p.2])) (hq : qs = ps ++ [p]) : GathP w qs (.slice A (n + 1) c) w2 := by
  subst hq
  rw [← flat_snoc] at h2
  obtain ⟨hn, _⟩ := Rp.of_own h2
  rw [hn] at h2 ⊢
  exact ⟨A, c, rfl, h2, hf.app h1 (Nat.le_refl _) hg⟩
theorem gathP_set {w w1 w2 : World} {n c : Nat} {ps qs : List Pk} {A : Option Addr} {xs : List Value} (hf : Fr [] w w1) (h1 : w1.ownsRow w.heap.size 115 2 (.slice A n c) n xs) (hq : qs = ps) (hx : xs = flat ps) (hw : w2.heap = w1.heap ∧ w2.os = w1.os ∧ w2.tape = w1.tape ∧ w2.output = w1.output) : GathP w qs (.slice A n c) w2 := by
  subst hq hx
  obtain ⟨hn, _⟩ := Rp.of_own h1
  subst hn
  obtain ⟨e1, e2, e3, e4⟩ := hw
  refine ⟨A, c, rfl, ?_, e2.trans hf.os, e3.trans hf.tape, e4.trans hf.output, by rw [e1]; exact hf.size, fun k hk hm => by rw [e1]; exact hf.block k hk hm⟩
  unfold World.ownsRow at h1 ⊢
  rw [e1]
  exact h1
theorem gathP_ret {w w1 : World} {n c : Nat} {A : Option Addr} {ps qs : List Pk} (hf : Fr [] w w1) (h : w1.ownsRow w.heap.size 115 2 (.slice A n c) n (flat ps)) (hz : qs = ps) : RetPks w qs (.returned (.slice A n c)) w1 := by
  subst hz
  obtain ⟨hn, _⟩ := Rp.of_own h
  subst hn
  exact ⟨A, c, rfl, hf, h⟩

set_option maxHeartbeats 1600000 in
theorem joined_any (A : Option Addr) (c : Nat) (ps : List Pk) (w : World) (ha : Rp w A c ps) (hlen : ps.length ≤ 1000000) (hfine : Fine ps) :
    Calls Tryd.prog 98 #[.slice A ps.length c] w (RetPks w (joinedOf ps)) := by
  obtain ⟨hnn, htot⟩ := hfine
  go_enter Tryd.func98, Tryd.ntmps98
  go_wp2
  go_loopw [3, 9] (fun v i wr => ∃ k : Nat, k ≤ ps.length ∧ i = .int .i64 k ∧ GathP w (joinedOf (ps.take k)) v wr) (fun _ i _ => ps.length - (intOf i).toNat)
  case atStart => exact ⟨0, Nat.zero_le _, rfl, none, 0, by simp [joinedOf], by simpa [joinedOf, flat] using World.ownsRow_nil w w.heap.size 115 2, Fr.refl _ _⟩
  case round =>
    obtain ⟨k, hk, rfl, A1, c1, rfl, hown, hf⟩ := hrel
    by_cases hlt : k < ps.length
    · obtain ⟨b1, o1, x, y, rfl, hx, hc1, hc2⟩ := (ha.fr0 hf).at_ hlt
      have hstep := joined_take hx
      have hnt : ∀ p ∈ ps.take k, 0 ≤ p.2 := fun p hp => hnn p (List.mem_of_mem_take hp)
      have hjf := joined_facts (ps.take k) hnt
      have hy0 : 0 ≤ y := hnn (x, y) (List.mem_of_getElem? hx.out)
      have htk : tot (ps.take (k + 1)) ≤ tot ps := tot_take_le hnn _
      have htk2 : tot (ps.take (k + 1)) = tot (ps.take k) + y := by
        rw [List.take_add_one, hx.out, tot_append]; simp [tot]
      obtain ⟨hj1, hj2, hj3⟩ := hjf
      have hj4 : (ps.take k).length ≤ k := by simp; omega
      generalize joinedOf (ps.take k) = out at *
      have HS := Lib.hid hstep
      have HJ := Lib.hid hj1
      clear hstep hj1 hnt
      have hyB : y ≤ 1000000000000 := by
        have := tot_mem_le hnn (List.mem_of_getElem? hx.out)
        simp at this
        omega
      by_cases hz : out.length = 0
      · have hd : decide (0 < out.length) = false := by simp [hz]
        have hz1 : (out.length : Int) ≤ 0 := by omega
        have HZ := Lib.hid hz
        clear hz
        go_wp2
        go_quiet (fail)
        go_wp2_with (at_builtin; refine wpList_append_pick rfl (.tmp 39) (.tmp 41) rfl (.slice A1 out.length c1) _ rfl (own_drewN ((hown.alloc _).alloc _) _) (wr.heap.size + 1) x y rfl (by simp) (by simp) (by omega) (by simp; have := hf.size; omega) ?_; intro A2 c2 w2 hown2 hg2)
        go_roundw
        case rel =>
          refine ⟨k + 1, by omega, by go_num, gathP_more (p := (x, y)) (((hf.alloc _).alloc _).drewN _) (own_drewN ((hown.alloc _).alloc _) _) hg2 hown2 ?_⟩
          rw [HS.out, join_first _ HZ.out]
          have := List.eq_nil_of_length_eq_zero HZ.out
          simp [this]
        case measure => simp [intOf]; omega
      · have hlast : out[out.length - 1]? = some out[out.length - 1] := List.getElem?_eq_getElem (by omega)
        obtain ⟨g, rfl, hg1, hg2⟩ := own_some hown (by omega)
        have a0 := hown.cellAt ((out.length - 1) * 2) (by omega)
        have a1 := hown.cellAt ((out.length - 1) * 2 + 1) (by omega)
        rw [flat_at0, hlast] at a0
        rw [flat_at1, hlast] at a1
        have a2 := hown.frozenAt ((out.length - 1) * 2 + 1)
        have hq0 := HJ.out _ (List.mem_of_getElem? hlast)
        have hq1 := tot_mem_le HJ.out (List.mem_of_getElem? hlast)
        generalize hq : out[out.length - 1] = q at *
        obtain ⟨q1, q2⟩ := q
        simp only [Option.map_some] at a0 a1
        simp only at hq0 hq1
        have HL := Lib.hid hlast
        clear hlast hq
        have b0 := (World.cell?_alloc_lt wr (.cells #[.int .i64 x, .int .i64 y] 115) ⟨g, (out.length - 1) * 2, none⟩ hg2).trans a0
        have b1' := (World.cell?_alloc_lt wr (.cells #[.int .i64 x, .int .i64 y] 115) ⟨g, (out.length - 1) * 2 + 1, none⟩ hg2).trans a1
        have hd : decide (0 < out.length) = true := by simp; omega
        have hlt' : out.length - 1 < out.length := by omega
        by_cases he : q1 = x
        · have hb : (q1 == x) = true := by simpa using he
          have HE := Lib.hid he
          clear he
          go_wp2
          go_quiet (fail)
          go_wp2
          go_region
          go_wp2
          go_roundw
          case rel =>
            have hst := hown.stored ((out.length - 1) * 2 + 1) (.int .i64 (q2 + y))
            refine ⟨k + 1, by omega, by go_num, gathP_set (ps := out.set (out.length - 1) (q1, q2 + y)) ((hf.setCell (p := ⟨g, (out.length - 1) * 2 + 1, none⟩) (.inr (by have := hf.size; omega)) _).alloc (.cells #[.int .i64 x, .int .i64 y] 115)) (hst.1.alloc _) ?_ ?_ ?_⟩
            · rw [HS.out, join_same HL.out HE.out]
            · rw [flat_set _ _ _ _ HL.out]
            · exact ⟨rfl, rfl, rfl, rfl⟩
          case measure => simp [intOf]; omega
        · have hb : (q1 == x) = false := by simpa using he
          have HE := Lib.hid he
          clear he
          go_wp2
          go_quiet (fail)
          go_wp2_with (at_builtin; refine wpList_append_pick rfl (.tmp 39) (.tmp 41) rfl (.slice (some ⟨g, 0, none⟩) out.length c1) _ rfl (own_drewN ((hown.alloc _).alloc _) _) (wr.heap.size + 1) x y rfl (by simp) (by simp) (by omega) (by simp; have := hf.size; omega) ?_; intro A2 c2 w2 hown2 hg2')
          go_roundw
          case rel =>
            refine ⟨k + 1, by omega, by go_num, gathP_more (p := (x, y)) (((hf.alloc _).alloc _).drewN _) (own_drewN ((hown.alloc _).alloc _) _) hg2' hown2 ?_⟩
            rw [HS.out, join_new HL.out HE.out]
          case measure => simp [intOf]; omega
    · go_wp2
      go_ret
      exact gathP_ret hf hown (by rw [List.take_of_length_le (by omega)])
end Go.Proofs.YtjpbmbonccenfaaDoor

/- Normal, Preemptions. -/
namespace Go.Proofs.YtjpbmbonccenfaaDoor
open Go.RowKit
set_option linter.unusedVariables false

/-- The first error of a schedule, so many steps having been counted. -/
def checkP : Int → List Pk → Int
  | _, [] => 0
  | s, p :: ps => if p.1 < 0 ∨ 8 ≤ p.1 ∨ p.2 < 1 then 1 else if 65536 - s < p.2 then 3 else checkP (s + p.2) ps
/-- Normal. -/
def normal (ps : List Pk) : List Pk × Int := if checkP 0 ps = 0 then (joinedOf ps, 0) else ([], checkP 0 ps)

theorem check_at {ps : List Pk} {k : Nat} {x y : Int} (h : Hid (ps[k]? = some (x, y))) (s : Int) : checkP s (ps.drop k) = if x < 0 ∨ 8 ≤ x ∨ y < 1 then 1 else if 65536 - s < y then 3 else checkP (s + y) (ps.drop (k + 1)) := by
  have hk : k < ps.length := (List.getElem?_eq_some_iff.1 h.out).1
  have he : ps[k] = (x, y) := (List.getElem?_eq_some_iff.1 h.out).2
  rw [List.drop_eq_getElem_cons hk, he, checkP]
theorem check_fine : ∀ (ps : List Pk) (s : Int), checkP s ps = 0 → s ≤ 65536 → (∀ p ∈ ps, 0 ≤ p.1 ∧ p.1 < 8 ∧ 1 ≤ p.2) ∧ s + tot ps ≤ 65536
  | [], s, _, hs => ⟨by simp, by simpa [tot] using hs⟩
  | p :: ps, s, h, hs => by
    rw [checkP] at h
    split at h
    · cases h
    · split at h
      · cases h
      · rename_i h1 h2
        have := check_fine ps (s + p.2) h (by omega)
        refine ⟨fun q hq => ?_, ?_⟩
        · rcases List.mem_cons.1 hq with rfl | hq
          · omega
          · exact this.1 q hq
        · have h3 := this.2
          simp only [tot, List.map_cons, List.sum_cons] at h3 ⊢
          omega
theorem fine_of_check {ps : List Pk} (h : checkP 0 ps = 0) : Fine ps := by
  have := check_fine ps 0 h (by omega)
  exact ⟨fun p hp => by have := this.1 p hp; omega, by omega⟩

/-- The call returns a schedule of its own and an error. -/
def RetNorm (w : World) (r : List Pk × Int) (e : Ending) (w' : World) : Prop :=
  ∃ A c, e = .returned (.tuple #[.slice A r.1.length c, .int .i64 r.2]) ∧ Fr [] w w' ∧ w'.ownsRow w.heap.size 115 2 (.slice A r.1.length c) r.1.length (flat r.1)
theorem RetNorm.err {w w1 : World} {ps : List Pk} {er : Int} (hf : Fr [] w w1) (h : Hid (checkP 0 ps = er)) (he : er ≠ 0) : RetNorm w (normal ps) (.returned (.tuple #[.slice none 0 0, .int .i64 er])) w1 := by
  have : normal ps = ([], er) := by unfold normal; rw [h.out, if_neg he]
  rw [this]
  exact ⟨none, 0, rfl, hf, by simpa [flat] using World.ownsRow_nil w1 w.heap.size 115 2⟩

set_option maxHeartbeats 1600000 in
theorem Normal_any (A : Option Addr) (c : Nat) (ps : List Pk) (w : World) (ha : Rp w A c ps) (hlen : ps.length ≤ 1000000) :
    Calls Tryd.prog 45 #[.slice A ps.length c] w (RetNorm w (normal ps)) := by
  go_enter Tryd.func45, Tryd.ntmps45
  go_wp2
  go_loopw [4, 9] (fun v i wr => ∃ (k : Nat) (s : Int), k ≤ ps.length ∧ i = .int .i64 k ∧ v = .int .i64 s ∧ 0 ≤ s ∧ s ≤ 65536 ∧ Hid (checkP 0 ps = checkP s (ps.drop k)) ∧ Fr [] w wr) (fun _ i _ => ps.length - (intOf i).toNat)
  case atStart => exact ⟨0, 0, Nat.zero_le _, rfl, rfl, by omega, by omega, by show _ = _; simp, Fr.refl _ _⟩
  case round =>
    obtain ⟨k, s, hk, rfl, rfl, hs0, hs1, hck, hf⟩ := hrel
    by_cases hlt : k < ps.length
    · obtain ⟨b1, o1, x, y, rfl, hx, hc1, hc2⟩ := (ha.fr0 hf).at_ hlt
      have hca := check_at hx s
      by_cases h1 : x < 0
      · rw [if_pos (by omega)] at hca
        have HC : Hid (checkP 0 ps = 1) := hck.out.trans hca
        have d1 : decide (x < 0) = true := by simpa using h1
        clear hca hck
        go_wp2
        go_ret2
        exact RetNorm.err (hf.alloc _) HC (by omega)
      · have d1 : decide (x < 0) = false := by simpa using h1
        by_cases h2 : 8 ≤ x
        · rw [if_pos (by omega)] at hca
          have HC : Hid (checkP 0 ps = 1) := hck.out.trans hca
          have d2 : decide (8 ≤ x) = true := by simpa using h2
          clear hca hck
          go_wp2
          go_ret2
          exact RetNorm.err (hf.alloc _) HC (by omega)
        · have d2 : decide (8 ≤ x) = false := by simpa using h2
          by_cases h3 : y < 1
          · rw [if_pos (by omega)] at hca
            have HC : Hid (checkP 0 ps = 1) := hck.out.trans hca
            have d3 : decide (y < 1) = true := by simpa using h3
            clear hca hck
            go_wp2
            go_ret2
            exact RetNorm.err (hf.alloc _) HC (by omega)
          · have d3 : decide (y < 1) = false := by simpa using h3
            rw [if_neg (by omega)] at hca
            by_cases h4 : 65536 - s < y
            · rw [if_pos h4] at hca
              have HC : Hid (checkP 0 ps = 3) := hck.out.trans hca
              clear hca hck
              go_wp2
              go_ret2
              exact RetNorm.err (hf.alloc _) HC (by omega)
            · rw [if_neg h4] at hca
              have HC : Hid (checkP 0 ps = checkP (s + y) (ps.drop (k + 1))) := hck.out.trans hca
              clear hca hck
              go_wp2
              go_roundw
              case rel => exact ⟨k + 1, s + y, by omega, by go_num, rfl, by omega, by omega, HC, hf.alloc _⟩
              case measure => simp [intOf]; omega
    · have HC : Hid (checkP 0 ps = 0) := by
        show _ = _
        rw [hck.out, List.drop_of_length_le (by omega), checkP]
      clear hck
      go_wp2_with fail
      refine (joined_any A c ps _ (ha.fr0 hf) hlen (fine_of_check HC.out)).mono ?_
      rintro e w2 ⟨A2, c2, rfl, hf2, hown2⟩
      go_wp2
      go_ret2
      rw [show normal ps = (joinedOf ps, 0) by unfold normal; rw [if_pos HC.out]]
      exact ⟨A2, c2, rfl, hf.trans hf2, own_base hown2 hf.size⟩

/-- The preemptions of a normal form. -/
def preemptAt (ps : List Pk) (k : Nat) : Bool := decide (0 ≤ laterOf ps k)
def preempts (ps : List Pk) : List Int := ((List.range ps.length).filter (preemptAt ps)).map fun (k : Nat) => (k : Int)
def preUpto (ps : List Pk) (k : Nat) : List Int := ((List.range k).filter (preemptAt ps)).map fun (k : Nat) => (k : Int)
theorem pre_yes {ps : List Pk} {k : Nat} (h : 0 ≤ laterOf ps k) : preUpto ps (k + 1) = preUpto ps k ++ [(k : Int)] := by
  simp [preUpto, List.range_succ, List.filter_append, preemptAt, h]
theorem pre_no {ps : List Pk} {k : Nat} (h : ¬ 0 ≤ laterOf ps k) : preUpto ps (k + 1) = preUpto ps k := by
  simp [preUpto, List.range_succ, List.filter_append, preemptAt, h]
theorem pre_le (ps : List Pk) (k : Nat) : (preUpto ps k).length ≤ k := by
  unfold preUpto
  rw [List.length_map]
  exact Nat.le_trans (List.length_filter_le _ _) (by simp)
/-- Preemptions. -/
def preemptions (ps : List Pk) : List Int × Int := if (normal ps).2 = 0 then (preempts (normal ps).1, 0) else ([], (normal ps).2)

/-- The call returns numbers of its own and an error. -/
def RetNums (w : World) (r : List Int × Int) (e : Ending) (w' : World) : Prop :=
  ∃ A c, e = .returned (.tuple #[.slice A r.1.length c, .int .i64 r.2]) ∧ Fr [] w w' ∧ w'.ownsRow w.heap.size 3 1 (.slice A r.1.length c) r.1.length (r.1.map (.int .i64))
theorem RetNums.err {w w1 : World} {r : List Int × Int} {er : Int} (hf : Fr [] w w1) (h : r = ([], er)) : RetNums w r (.returned (.tuple #[.slice none 0 0, .int .i64 er])) w1 := by
  subst h
  exact ⟨none, 0, rfl, hf, by simpa using World.ownsRow_nil w1 w.heap.size 3 1⟩
theorem RetNums.ok {w w1 : World} {r : List Int × Int} {er : Int} {n c : Nat} {A : Option Addr} {zs : List Int} (hf : Fr [] w w1) (ho : w1.ownsRow w.heap.size 3 1 (.slice A n c) n (zs.map (.int .i64))) (h : r = (zs, er)) : RetNums w r (.returned (.tuple #[.slice A n c, .int .i64 er])) w1 := by
  subst h
  obtain ⟨hn, _⟩ := Rd.of_own ho
  subst hn
  exact ⟨A, c, rfl, hf, ho⟩

theorem normal_len (ps : List Pk) : (normal ps).1.length ≤ ps.length := by
  unfold normal
  split
  · rename_i h
    exact (joined_facts ps (fine_of_check h).1).2.2
  · simp

set_option maxHeartbeats 1600000 in
theorem Preemptions_any (A : Option Addr) (c : Nat) (ps : List Pk) (w : World) (ha : Rp w A c ps) (hlen : ps.length ≤ 1000000) :
    Calls Tryd.prog 47 #[.slice A ps.length c] w (RetNums w (preemptions ps)) := by
  go_enter Tryd.func47, Tryd.ntmps47
  go_wp2_with fail
  refine (Normal_any A c ps w ha hlen).mono ?_
  rintro e w2 ⟨A2, c2, rfl, hf2, hown2⟩
  have hnl := normal_len ps
  by_cases he : (normal ps).2 = 0
  · have heb : ((normal ps).2 != 0) = false := by simp [he]
    have hpr := Lib.hid (show preemptions ps = (preempts (normal ps).1, 0) by unfold preemptions; rw [if_pos he])
    have hr := (Rp.of_own hown2).2
    have HE := Lib.hid he
    clear he hown2
    generalize (normal ps).1 = ns at *
    generalize (normal ps).2 = er at *
    go_wp2
    go_loopw [5, 17] (fun v i wr => ∃ k : Nat, k ≤ ns.length ∧ i = .int .i64 k ∧ Gath w2 3 ((preUpto ns k).map (.int .i64)) v wr) (fun _ i _ => ns.length - (intOf i).toNat)
    case atStart => exact ⟨0, Nat.zero_le _, rfl, Gath.start _ _ (by simp [preUpto])⟩
    case round =>
      obtain ⟨k, hk, rfl, A1, c1, rfl, hown, hf⟩ := hrel
      simp only [List.length_map] at hown
      have hpl := pre_le ns k
      by_cases hlt : k < ns.length
      · by_cases hl : 0 ≤ laterOf ns k
        · have hd : decide (0 ≤ laterOf ns k) = true := by simpa using hl
          go_wp2_with (first
            | (at_builtin
               refine wpList_append_rd rfl (.tmp 24) (.tmp 26) _ rfl elemInts (.slice A1 (preUpto ns k).length c1) _ rfl (own_drewN (hown.alloc _) _) _ _ [(k : Int)] (.int .i64) rfl ((Rd.one _ _ _ _).drewN _) one_i64 (by simp; omega) (by simp; have := hf.size; omega) ?_
               intro A4 c4 w4 hown4 hg4 hat4)
            | (go_at_call 92; refine (later_any _ _ ns k _ (hr.fr0 hf) hlt).mono ?_; rintro e w' ⟨rfl, n, rfl⟩))
          go_roundw
          case rel => exact ⟨k + 1, by omega, by go_num, Gath.snoc ((hf.alloc _).drewN n) (own_drewN (hown.alloc _) _) hg4 hown4 (by rw [pre_yes hl]; simp)⟩
          case measure => simp [intOf]; omega
        · have hd : decide (0 ≤ laterOf ns k) = false := by simpa using hl
          go_wp2_with (go_at_call 92; refine (later_any _ _ ns k _ (hr.fr0 hf) hlt).mono ?_; rintro e w' ⟨rfl, n, rfl⟩)
          go_roundw
          case rel => exact ⟨k + 1, by omega, by go_num, Gath.same (hf.drewN n) (own_drewN hown _) (by rw [pre_no (by omega)])⟩
          case measure => simp [intOf]; omega
      · go_wp2
        go_ret2
        exact RetNums.ok (zs := preUpto ns k) (hf2.trans hf) (own_base (by simpa using hown) hf2.size) (by rw [hpr.out, show k = ns.length by omega]; rfl)
  · have heb : ((normal ps).2 != 0) = true := by simpa using he
    have hpr := Lib.hid (show preemptions ps = ([], (normal ps).2) by unfold preemptions; rw [if_neg he])
    clear he
    go_wp2
    go_ret2
    exact RetNums.err hf2 hpr.out
end Go.Proofs.YtjpbmbonccenfaaDoor

/- Normal forms and joined schedules: the plain law. -/
namespace Go.Proofs.YtjpbmbonccenfaaDoor
open Go.RowKit
set_option linter.unusedVariables false

/-- The normal form, from behind. -/
def rl : List Pk → List Pk
  | [] => []
  | p :: ps => match rl ps with
    | [] => [p]
    | q :: qs => if q.1 = p.1 then (p.1, p.2 + q.2) :: qs else p :: q :: qs
theorem rl_cons (p : Pk) (ps : List Pk) : ∃ c r, rl (p :: ps) = (p.1, c) :: r := by
  rw [rl]
  split
  · exact ⟨p.2, [], rfl⟩
  · split
    · exact ⟨_, _, rfl⟩
    · exact ⟨p.2, _, rfl⟩
theorem rl_merge {p q : Pk} (h : q.1 = p.1) (ps : List Pk) : rl (q :: p :: ps) = rl ((q.1, q.2 + p.2) :: ps) := by
  rw [rl, rl, rl]
  rcases rl ps with _ | ⟨r, rs⟩
  · simp [h]
  · by_cases hr : r.1 = p.1
    · simp [hr, h]; omega
    · simp [hr, h]
theorem rl_apart {p q : Pk} (h : ¬ q.1 = p.1) (ps : List Pk) : rl (q :: p :: ps) = q :: rl (p :: ps) := by
  obtain ⟨c, r, e⟩ := rl_cons p ps
  rw [rl, e]
  simp
  exact fun h' => absurd h'.symm h
theorem fold_rl : ∀ (ps out : List Pk) (q : Pk), ps.foldl joinStep (out ++ [q]) = out ++ rl (q :: ps)
  | [], out, q => by simp [rl]
  | p :: ps, out, q => by
    rw [List.foldl_cons]
    by_cases h : q.1 = p.1
    · have : joinStep (out ++ [q]) p = out ++ [(q.1, q.2 + p.2)] := by simp [joinStep, h]
      rw [this, fold_rl, rl_merge h]
    · have : joinStep (out ++ [q]) p = (out ++ [q]) ++ [p] := by simp [joinStep, h]
      rw [this, fold_rl, rl_apart h]; simp
theorem joined_rl (ps : List Pk) : joinedOf ps = rl ps := by
  cases ps with
  | nil => rfl
  | cons p ps => exact fold_rl ps [] p

/-- No two neighbours have one thread. -/
def Apart : List Pk → Prop
  | p :: q :: ps => p.1 ≠ q.1 ∧ Apart (q :: ps)
  | _ => True
theorem rl_apart_ : ∀ ps : List Pk, Apart (rl ps)
  | [] => trivial
  | p :: ps => by
    have ih := rl_apart_ ps
    rw [rl]
    rcases h : rl ps with _ | ⟨q, qs⟩
    · trivial
    · rw [h] at ih
      show Apart (if q.1 = p.1 then (p.1, p.2 + q.2) :: qs else p :: q :: qs)
      split
      · rename_i e
        cases qs with
        | nil => trivial
        | cons r rs => exact ⟨by rw [← e]; exact ih.1, ih.2⟩
      · rename_i e
        exact ⟨fun h' => e h'.symm, ih⟩
theorem rl_self : ∀ {ps : List Pk}, Apart ps → rl ps = ps
  | [], _ => rfl
  | [p], _ => rfl
  | p :: q :: ps, h => by rw [rl_apart h.1, rl_self h.2]
theorem Apart.at_ : ∀ {ps : List Pk} (h : Apart ps) {i : Nat} {p q : Pk}, ps[i]? = some p → ps[i + 1]? = some q → p.1 ≠ q.1
  | a :: b :: ps, h, 0, p, q, h1, h2 => by simp at h1 h2; subst h1 h2; exact h.1
  | a :: b :: ps, h, i + 1, p, q, h1, h2 => h.2.at_ (i := i) (by simpa using h1) (by simpa using h2)
  | [a], h, i, p, q, h1, h2 => by simp at h2
  | [], h, i, p, q, h1, h2 => by simp at h1

/-- Picks that are valid, one by one. -/
def Val (ps : List Pk) : Prop := ∀ p ∈ ps, 0 ≤ p.1 ∧ p.1 < 8 ∧ 1 ≤ p.2
theorem rl_val : ∀ {ps : List Pk}, Val ps → Val (rl ps)
  | [], h => h
  | p :: ps, h => by
    have hp := h p (by simp)
    have ih := rl_val (ps := ps) fun q hq => h q (by simp [hq])
    rw [rl]
    rcases hr : rl ps with _ | ⟨q, qs⟩
    · intro r hm; simp at hm; subst hm; exact hp
    · rw [hr] at ih
      have hq := ih q (by simp)
      show Val (if q.1 = p.1 then (p.1, p.2 + q.2) :: qs else p :: q :: qs)
      split
      · intro r hm
        rcases List.mem_cons.1 hm with rfl | hm
        · exact ⟨hp.1, hp.2.1, by simp; omega⟩
        · exact ih r (by simp [hm])
      · intro r hm
        rcases List.mem_cons.1 hm with rfl | hm
        · exact hp
        · exact ih r hm
theorem rl_tot : ∀ ps : List Pk, tot (rl ps) = tot ps
  | [] => rfl
  | p :: ps => by
    have ih := rl_tot ps
    rw [rl]
    rcases hr : rl ps with _ | ⟨q, qs⟩
    · rw [hr] at ih; simp [tot] at ih ⊢; omega
    · rw [hr] at ih
      show tot (if q.1 = p.1 then (p.1, p.2 + q.2) :: qs else p :: q :: qs) = _
      simp only [tot, List.map_cons, List.sum_cons] at ih ⊢
      split <;> simp <;> omega
/-- How many steps a thread takes. -/
def stepsOf (t : Int) (ps : List Pk) : Int := (ps.map fun p => if p.1 = t then p.2 else 0).sum
theorem stepsOf_cons (t : Int) (p : Pk) (ps : List Pk) : stepsOf t (p :: ps) = (if p.1 = t then p.2 else 0) + stepsOf t ps := by simp [stepsOf]
theorem stepsOf_append (t : Int) (a b : List Pk) : stepsOf t (a ++ b) = stepsOf t a + stepsOf t b := by simp [stepsOf]
theorem rl_steps (t : Int) : ∀ ps : List Pk, stepsOf t (rl ps) = stepsOf t ps
  | [] => rfl
  | p :: ps => by
    have ih := rl_steps t ps
    rw [rl]
    rcases hr : rl ps with _ | ⟨q, qs⟩
    · rw [hr] at ih; rw [stepsOf_cons, stepsOf_cons, ih]
    · rw [hr] at ih
      show stepsOf t (if q.1 = p.1 then (p.1, p.2 + q.2) :: qs else p :: q :: qs) = _
      rw [stepsOf_cons, ← ih, stepsOf_cons]
      by_cases e : q.1 = p.1
      · rw [if_pos e, stepsOf_cons]
        simp only [e]
        split <;> omega
      · rw [if_neg e, stepsOf_cons, stepsOf_cons]
theorem rl_len : ∀ ps : List Pk, (rl ps).length ≤ ps.length
  | [] => by simp [rl]
  | p :: ps => by
    have ih := rl_len ps
    rw [rl]
    rcases hr : rl ps with _ | ⟨q, qs⟩
    · simp
    · rw [hr] at ih
      show (if q.1 = p.1 then (p.1, p.2 + q.2) :: qs else p :: q :: qs).length ≤ _
      split <;> simp at ih ⊢ <;> omega
theorem rl_len_cons (p : Pk) (ps : List Pk) : (rl (p :: ps)).length ≤ (rl ps).length + 1 := by
  rw [rl]
  rcases hr : rl ps with _ | ⟨q, qs⟩
  · simp
  · show (if q.1 = p.1 then (p.1, p.2 + q.2) :: qs else p :: q :: qs).length ≤ _
    split <;> simp
theorem rl_less : ∀ (x : List Pk) {p q : Pk} (y : List Pk), p.1 = q.1 → (rl (x ++ p :: q :: y)).length < (x ++ p :: q :: y).length
  | [], p, q, y, h => by
    rw [List.nil_append, rl_merge h]
    have := rl_len ((p.1, p.2 + q.2) :: y)
    simp at this ⊢; omega
  | a :: x, p, q, y, h => by
    have ih := rl_less x y h
    have := rl_len_cons a (x ++ p :: q :: y)
    simp at ih this ⊢; omega

theorem checkP_ok : ∀ (ps : List Pk) (s : Int), Val ps → s + tot ps ≤ 65536 → 0 ≤ s → checkP s ps = 0
  | [], _, _, _, _ => rfl
  | p :: ps, s, h, ht, hs => by
    have hp := h p (by simp)
    have h2 : Val ps := fun q hq => h q (by simp [hq])
    have h3 : ∀ l : List Pk, Val l → 0 ≤ tot l := by
      intro l
      induction l with
      | nil => intro _; simp [tot]
      | cons q l ih =>
        intro hl
        have h1 := ih fun r hr => hl r (by simp [hr])
        have h2 := hl q (by simp)
        simp only [tot, List.map_cons, List.sum_cons] at h1 ⊢; omega
    have h4 := h3 ps h2
    have ht' : s + p.2 + tot ps ≤ 65536 := by simp only [tot, List.map_cons, List.sum_cons] at ht ⊢; omega
    rw [checkP, if_neg (by omega), if_neg (by omega)]
    exact checkP_ok ps _ h2 ht' (by omega)

/-- The loop over one group: what is left of it, and what lies behind it. -/
structure Grp (t c : Int) (l : List Pk) (r : List Pk) (left : Int) : Prop where
  run : rl ((t, c - left) :: l) = (t, c) :: r
theorem grp_start {l : List Pk} {t c : Int} {r : List Pk} (hv : rl l = (t, c) :: r) : Grp t c l r c := by
  refine ⟨?_⟩
  rw [rl, hv]; simp
theorem rl_head_ge : ∀ {l : List Pk} {t x c : Int} {r : List Pk}, Val l → rl ((t, x) :: l) = (t, c) :: r → (c = x ∧ rl l = r ∧ ∀ p, l.head? = some p → p.1 ≠ t) ∨ (x < c ∧ ∃ y l', l = (t, y) :: l')
  | [], t, x, c, r, _, h => by simp [rl] at h; exact .inl ⟨h.1.symm, h.2.symm ▸ rfl, by simp⟩
  | p :: l, t, x, c, r, hv, h => by
    by_cases e : t = p.1
    · right
      have hv2 := rl_val hv
      obtain ⟨c', r', h'⟩ := rl_cons p l
      rw [rl, h'] at h
      rw [h'] at hv2
      have := hv2 (p.1, c') (by simp)
      simp [e] at h
      refine ⟨by simp at this; omega, p.2, l, by rw [e]⟩
    · left
      rw [rl_apart (q := (t, x)) e] at h
      injection h with h1 h2
      injection h1 with h3 h4
      exact ⟨h4.symm, h2, fun q hq => by simp at hq; subst hq; exact fun h => e h.symm⟩
theorem grp_more {l : List Pk} {t c left : Int} {r : List Pk} (hv : Val l) (h : Grp t c l r left) (hl : 0 < left) : ∃ y l', l = (t, y) :: l' ∧ 0 ≤ left - y ∧ Grp t c l' r (left - y) := by
  rcases rl_head_ge hv h.run with ⟨h1, _, _⟩ | ⟨h1, y, l', rfl⟩
  · omega
  · have hg : Grp t c l' r (left - y) := ⟨by have := h.run; rw [rl_merge (q := (t, c - left)) (p := (t, y)) rfl] at this; simpa [show c - left + y = c - (left - y) by omega] using this⟩
    refine ⟨y, l', rfl, ?_, hg⟩
    rcases rl_head_ge (fun p hp => hv p (by simp [hp])) hg.run with ⟨h2, _, _⟩ | ⟨h2, _⟩ <;> omega
theorem grp_end {l : List Pk} {t c : Int} {r : List Pk} (hv : Val l) (h : Grp t c l r 0) : rl l = r := by
  rcases rl_head_ge hv h.run with ⟨_, h1, _⟩ | ⟨h1, _⟩
  · exact h1
  · omega

/-- A schedule in which the pick at a place is followed by another one of its thread: so many rounds. -/
def mvUpto (l : List Pk) (at_ next : Nat) : Nat → List Pk
  | 0 => []
  | k + 1 => if k = next then mvUpto l at_ next k else if k = at_ then mvUpto l at_ next k ++ [l.getD k (0, 0), l.getD next (0, 0)] else mvUpto l at_ next k ++ [l.getD k (0, 0)]
def mvOf (l : List Pk) (at_ next : Nat) : List Pk := mvUpto l at_ next l.length
theorem mv_len {l : List Pk} {at_ next : Nat} (h : at_ < next) : ∀ k, (mvUpto l at_ next k).length + (if next < k then 1 else 0) = k + (if at_ < k then 1 else 0)
  | 0 => by simp [mvUpto]
  | k + 1 => by
    have ih := mv_len (l := l) h k
    rw [mvUpto]
    (repeat' split) <;> simp <;> (repeat' split at ih) <;> omega
theorem mv_steps {l : List Pk} {at_ next : Nat} (h : at_ < next) (t : Int) : ∀ k, k ≤ l.length → stepsOf t (mvUpto l at_ next k) + (if next < k then (if (l.getD next (0, 0)).1 = t then (l.getD next (0, 0)).2 else 0) else 0) = stepsOf t (l.take k) + (if at_ < k then (if (l.getD next (0, 0)).1 = t then (l.getD next (0, 0)).2 else 0) else 0)
  | 0, _ => by simp [mvUpto]
  | k + 1, hk => by
    have ih := mv_steps (l := l) h t k (by omega)
    have ht : l.take (k + 1) = l.take k ++ [l.getD k (0, 0)] := by
      rw [List.take_add_one, List.getD_eq_getElem?_getD, List.getElem?_eq_getElem (by omega)]; simp
    rw [mvUpto, ht, stepsOf_append]
    generalize hd : (if (l.getD next (0, 0)).1 = t then (l.getD next (0, 0)).2 else 0) = d at *
    have e1 : stepsOf t [l.getD k (0, 0)] = if (l.getD k (0, 0)).1 = t then (l.getD k (0, 0)).2 else 0 := by simp [stepsOf]
    have e2 : stepsOf t [l.getD k (0, 0), l.getD next (0, 0)] = stepsOf t [l.getD k (0, 0)] + d := by rw [← hd]; simp [stepsOf]
    by_cases a : k = next
    · subst a
      rw [if_pos rfl, e1, hd]
      rw [if_neg (by omega), if_pos (by omega)] at ih
      rw [if_pos (by omega), if_pos (by omega)]
      omega
    · rw [if_neg a]
      by_cases b : k = at_
      · subst b
        rw [if_pos rfl, stepsOf_append, e2]
        rw [if_neg (by omega), if_neg (by omega)] at ih
        rw [if_neg (by omega), if_pos (by omega)]
        omega
      · rw [if_neg b, stepsOf_append]
        have c1 : (if next < k + 1 then d else 0) = (if next < k then d else 0) := by (repeat' split) <;> omega
        have c2 : (if at_ < k + 1 then d else 0) = (if at_ < k then d else 0) := by (repeat' split) <;> omega
        rw [c1, c2]; omega
theorem mv_has {l : List Pk} {at_ next : Nat} (h : at_ < next) : ∀ k, at_ < k → ∃ x y, mvUpto l at_ next k = x ++ l.getD at_ (0, 0) :: l.getD next (0, 0) :: y
  | 0, h0 => by omega
  | k + 1, h0 => by
    rw [mvUpto]
    by_cases b : k = at_
    · subst b
      rw [if_neg (by omega), if_pos rfl]
      exact ⟨_, [], rfl⟩
    · obtain ⟨x, y, e⟩ := mv_has (l := l) h k (by omega)
      rw [e]
      split
      · exact ⟨x, y, rfl⟩
      · exact ⟨x, y ++ [l.getD k (0, 0)], by simp⟩
theorem mv_val {l : List Pk} (hv : Val l) {at_ next : Nat} (hn : next < l.length) : ∀ k, k ≤ l.length → Val (mvUpto l at_ next k)
  | 0, _ => by intro p hp; cases hp
  | k + 1, hk => by
    have ih := mv_val hv (at_ := at_) hn k (by omega)
    have g : ∀ i, i < l.length → l.getD i (0, 0) ∈ l := fun i hi => by rw [List.getD_eq_getElem?_getD, List.getElem?_eq_getElem hi]; simp
    rw [mvUpto]
    split
    · exact ih
    · split <;> (intro p hp; rcases List.mem_append.1 hp with hp | hp)
      · exact ih p hp
      · simp only [List.mem_cons, List.not_mem_nil, or_false] at hp
        rcases hp with rfl | rfl
        · exact hv _ (g k (by omega))
        · exact hv _ (g next hn)
      · exact ih p hp
      · simp only [List.mem_cons, List.not_mem_nil, or_false] at hp
        subst hp
        exact hv _ (g k (by omega))
theorem mv_tot {l : List Pk} {at_ next : Nat} (h : at_ < next) (hn : next < l.length) : tot (mvOf l at_ next) = tot l := by
  have key : ∀ k, k ≤ l.length → tot (mvUpto l at_ next k) + (if next < k then (l.getD next (0, 0)).2 else 0) = tot (l.take k) + (if at_ < k then (l.getD next (0, 0)).2 else 0) := by
    intro k
    induction k with
    | zero => intro _; simp [mvUpto]
    | succ k ih =>
      intro hk
      have ih := ih (by omega)
      have ht : l.take (k + 1) = l.take k ++ [l.getD k (0, 0)] := by
        rw [List.take_add_one, List.getD_eq_getElem?_getD, List.getElem?_eq_getElem (by omega)]; simp
      have ta : ∀ a b : List Pk, tot (a ++ b) = tot a + tot b := fun a b => by simp [tot]
      rw [mvUpto, ht, ta]
      have e1 : tot [l.getD k (0, 0)] = (l.getD k (0, 0)).2 := by simp [tot]
      have e2 : tot [l.getD k (0, 0), l.getD next (0, 0)] = (l.getD k (0, 0)).2 + (l.getD next (0, 0)).2 := by simp [tot]
      by_cases a : k = next
      · subst a
        rw [if_neg (by omega), if_pos (by omega)] at ih
        rw [if_pos rfl, if_pos (by omega), if_pos (by omega), e1]
        omega
      · rw [if_neg a]
        by_cases b : k = at_
        · subst b
          rw [if_neg (by omega), if_neg (by omega)] at ih
          rw [if_pos rfl, ta, e2, if_neg (by omega), if_pos (by omega), e1]
          omega
        · rw [if_neg b, ta]
          (repeat' split) <;> (repeat' split at ih) <;> omega
  have := key l.length (Nat.le_refl _)
  rw [if_pos hn, if_pos (by omega), List.take_length] at this
  unfold mvOf; omega
end Go.Proofs.YtjpbmbonccenfaaDoor

/- The reference's Normal; moved, Join of the program. -/
namespace Go.Proofs.YtjpbmbonccenfaaDoor
open Go.RowKit
set_option linter.unusedVariables false

theorem tot_take_succ {ps : List Pk} {k : Nat} {x y : Int} (hx : Hid (ps[k]? = some (x, y))) {s : Int} (h : Hid ((∀ p ∈ ps.take k, 0 ≤ p.2) ∧ tot (ps.take k) = s)) (hy : 1 ≤ y) : Hid ((∀ p ∈ ps.take (k + 1), 0 ≤ p.2) ∧ tot (ps.take (k + 1)) = s + y) := by
  show _ ∧ _
  rw [List.take_add_one, hx.out, tot_append, h.out.2]
  refine ⟨fun p hp => ?_, by simp [tot]⟩
  rcases List.mem_append.1 hp with hp | hp
  · exact h.out.1 p hp
  · simp at hp; subst hp; simp; omega

set_option maxRecDepth 100000 in
set_option maxHeartbeats 3200000 in
theorem refNormal_any (A : Option Addr) (c : Nat) (ps : List Pk) (w : World) (ha : Rp w A c ps) (hlen : ps.length ≤ 1000000) :
    Calls Tryd.prog 33 #[.slice A ps.length c] w (RetNorm w (normal ps)) := by
  go_enter Tryd.func33, Tryd.ntmps33
  go_wp2
  go_loopw [4, 5, 6] (fun sv v i wr => ∃ (k : Nat) (s : Int), k ≤ ps.length ∧ i = .int .i64 k ∧ sv = .int .i64 s ∧ 0 ≤ s ∧ s ≤ 65536 ∧ Hid (checkP 0 ps = checkP s (ps.drop k)) ∧ Hid ((∀ p ∈ ps.take k, 0 ≤ p.2) ∧ tot (ps.take k) = s) ∧ GathP w (joinedOf (ps.take k)) v wr) (fun _ _ i _ => ps.length - (intOf i).toNat)
  case atStart => exact ⟨0, 0, Nat.zero_le _, rfl, rfl, by omega, by omega, by show _ = _; simp, by show _ ∧ _; simp [tot], none, 0, by simp [joinedOf], by simpa [joinedOf, flat] using World.ownsRow_nil w w.heap.size 115 2, Fr.refl _ _⟩
  case round =>
    obtain ⟨k, s, hk, rfl, rfl, hs0, hs1, hck, htk, A1, c1, rfl, hown, hf⟩ := hrel
    by_cases hlt : k < ps.length
    · obtain ⟨b1, o1, x, y, rfl, hx, hc1, hc2⟩ := (ha.fr0 hf).at_ hlt
      have hca := check_at hx s
      by_cases h1 : x < 0
      · rw [if_pos (by omega)] at hca
        have HC : Hid (checkP 0 ps = 1) := hck.out.trans hca
        have d1 : decide (x < 0) = true := by simpa using h1
        clear hca hck htk hown
        go_wp2
        go_ret2
        exact RetNorm.err hf HC (by omega)
      · have d1 : decide (x < 0) = false := by simpa using h1
        by_cases h2 : 8 ≤ x
        · rw [if_pos (by omega)] at hca
          have HC : Hid (checkP 0 ps = 1) := hck.out.trans hca
          have d2 : decide (8 ≤ x) = true := by simpa using h2
          clear hca hck htk hown
          go_wp2
          go_ret2
          exact RetNorm.err hf HC (by omega)
        · have d2 : decide (8 ≤ x) = false := by simpa using h2
          by_cases h3 : y < 1
          · rw [if_pos (by omega)] at hca
            have HC : Hid (checkP 0 ps = 1) := hck.out.trans hca
            have d3 : decide (y < 1) = true := by simpa using h3
            clear hca hck htk hown
            go_wp2
            go_ret2
            exact RetNorm.err hf HC (by omega)
          · have d3 : decide (y < 1) = false := by simpa using h3
            rw [if_neg (by omega)] at hca
            by_cases h4 : 65536 - s < y
            · rw [if_pos h4] at hca
              have HC : Hid (checkP 0 ps = 3) := hck.out.trans hca
              clear hca hck htk hown
              go_wp2
              go_ret2
              exact RetNorm.err hf HC (by omega)
            · rw [if_neg h4] at hca
              have HC : Hid (checkP 0 ps = checkP (s + y) (ps.drop (k + 1))) := hck.out.trans hca
              have htk' := tot_take_succ hx htk (by omega)
              have hstep := joined_take hx
              have hjf := joined_facts (ps.take k) htk.out.1
              obtain ⟨hj1, hj2, hj3⟩ := hjf
              have hj4 : (ps.take k).length ≤ k := by simp; omega
              rw [htk.out.2] at hj2
              generalize joinedOf (ps.take k) = out at *
              have HS := Lib.hid hstep
              have HJ := Lib.hid hj1
              clear hstep hj1 hca hck
              by_cases hz : out.length = 0
              · have hd : decide (0 < out.length) = false := by simp [hz]
                have hz1 : (out.length : Int) ≤ 0 := by omega
                have HZ := Lib.hid hz
                clear hz
                go_wp2
                go_quiet (fail)
                go_wp2_with (at_builtin; refine wpList_append_pick rfl (.tmp 86) (.tmp 91) rfl (.slice A1 out.length c1) _ rfl (own_drewN (hown.alloc _) _) wr.heap.size x y rfl (by simp) (by simp) (by omega) (by simp; have := hf.size; omega) ?_; intro A2 c2 w2 hown2 hg2)
                go_roundw
                case rel =>
                  refine ⟨k + 1, s + y, by omega, by go_num, rfl, by omega, by omega, HC, htk', gathP_more (p := (x, y)) ((hf.alloc _).drewN _) (own_drewN (hown.alloc _) _) hg2 hown2 ?_⟩
                  rw [HS.out, join_first _ HZ.out]
                  have := List.eq_nil_of_length_eq_zero HZ.out
                  simp [this]
                case measure => simp [intOf]; omega
              · have hlast : out[out.length - 1]? = some out[out.length - 1] := List.getElem?_eq_getElem (by omega)
                obtain ⟨g, rfl, hg1, hg2⟩ := own_some hown (by omega)
                have a0 := hown.cellAt ((out.length - 1) * 2) (by omega)
                have a1 := hown.cellAt ((out.length - 1) * 2 + 1) (by omega)
                rw [flat_at0, hlast] at a0
                rw [flat_at1, hlast] at a1
                have a2 := hown.frozenAt ((out.length - 1) * 2 + 1)
                have hq0 := HJ.out _ (List.mem_of_getElem? hlast)
                have hq1 := tot_mem_le HJ.out (List.mem_of_getElem? hlast)
                generalize hq : out[out.length - 1] = q at *
                obtain ⟨q1, q2⟩ := q
                simp only [Option.map_some] at a0 a1
                simp only at hq0 hq1
                have HL := Lib.hid hlast
                clear hlast hq
                have hd : decide (0 < out.length) = true := by simp; omega
                have hlt' : out.length - 1 < out.length := by omega
                by_cases he : q1 = x
                · have hb : (q1 == x) = true := by simpa using he
                  have HE := Lib.hid he
                  clear he
                  go_wp2
                  go_quiet (fail)
                  go_wp2
                  go_region
                  go_wp2
                  go_roundw
                  case rel =>
                    have hst := hown.stored ((out.length - 1) * 2 + 1) (.int .i64 (q2 + y))
                    refine ⟨k + 1, s + y, by omega, by go_num, rfl, by omega, by omega, HC, htk', gathP_set (ps := out.set (out.length - 1) (q1, q2 + y)) (hf.setCell (p := ⟨g, (out.length - 1) * 2 + 1, none⟩) (.inr (by have := hf.size; omega)) _) hst.1 ?_ ?_ ?_⟩
                    · rw [HS.out, join_same HL.out HE.out]
                    · rw [flat_set _ _ _ _ HL.out]
                    · exact ⟨rfl, rfl, rfl, rfl⟩
                  case measure => simp [intOf]; omega
                · have hb : (q1 == x) = false := by simpa using he
                  have HE := Lib.hid he
                  clear he
                  go_wp2
                  go_quiet (fail)
                  go_wp2_with (at_builtin; refine wpList_append_pick rfl (.tmp 86) (.tmp 91) rfl (.slice (some ⟨g, 0, none⟩) out.length c1) _ rfl (own_drewN (hown.alloc _) _) wr.heap.size x y rfl (by simp) (by simp) (by omega) (by simp; have := hf.size; omega) ?_; intro A2 c2 w2 hown2 hg2')
                  go_roundw
                  case rel =>
                    refine ⟨k + 1, s + y, by omega, by go_num, rfl, by omega, by omega, HC, htk', gathP_more (p := (x, y)) ((hf.alloc _).drewN _) (own_drewN (hown.alloc _) _) hg2' hown2 ?_⟩
                    rw [HS.out, join_new HL.out HE.out]
                  case measure => simp [intOf]; omega
    · have HC : checkP 0 ps = 0 := by
        rw [hck.out, List.drop_of_length_le (by omega), checkP]
      go_wp2
      go_ret2
      rw [List.take_of_length_le (by omega)] at hown ⊢
      rw [show normal ps = (joinedOf ps, 0) by unfold normal; rw [if_pos HC]]
      exact ⟨_, _, rfl, hf, hown⟩
end Go.Proofs.YtjpbmbonccenfaaDoor

/- moved, Join of the program. -/
namespace Go.Proofs.YtjpbmbonccenfaaDoor
open Go.RowKit
set_option linter.unusedVariables false

theorem getD_at {ps : List Pk} {k : Nat} {x y : Int} (h : Hid (ps[k]? = some (x, y))) : ps.getD k (0, 0) = (x, y) := by
  rw [List.getD_eq_getElem?_getD, h.out]; rfl
theorem mv_skip {ps : List Pk} {a n : Nat} : mvUpto ps a n (n + 1) = mvUpto ps a n n := by rw [mvUpto, if_pos rfl]
theorem mv_both {ps : List Pk} {a n : Nat} {x y x' y' : Int} (ha : Hid (ps[a]? = some (x, y))) (hn : Hid (ps[n]? = some (x', y'))) (h : a ≠ n) : mvUpto ps a n (a + 1) = mvUpto ps a n a ++ [(x, y)] ++ [(x', y')] := by
  rw [mvUpto, if_neg h, if_pos rfl, getD_at ha, getD_at hn]; simp
theorem mv_one {ps : List Pk} {a n k : Nat} {x y : Int} (hk : Hid (ps[k]? = some (x, y))) (h1 : k ≠ n) (h2 : k ≠ a) : mvUpto ps a n (k + 1) = mvUpto ps a n k ++ [(x, y)] := by
  rw [mvUpto, if_neg h1, if_neg h2, getD_at hk]

set_option maxRecDepth 100000 in
set_option maxHeartbeats 3200000 in
theorem moved_any (A : Option Addr) (c : Nat) (ps : List Pk) (at_ next : Nat) (w : World) (ha : Rp w A c ps) (hlen : ps.length ≤ 999999) (hat : at_ < next) (hnl : next < ps.length) (hnx : Hid (laterOf ps at_ = (next : Int))) (hfine : Fine (mvOf ps at_ next)) :
    Calls Tryd.prog 93 #[.slice A ps.length c, .int .i64 at_] w (RetPks w (joinedOf (mvOf ps at_ next))) := by
  go_enter Tryd.func93, Tryd.ntmps93
  go_wp2_with (go_at_call 92; refine (later_any A c ps at_ w ha (by omega)).mono ?_; rw [hnx.out]; rintro e w' ⟨rfl, n, rfl⟩)
  go_loopw [6, 14] (fun v i wr => ∃ k : Nat, k ≤ ps.length ∧ i = .int .i64 k ∧ GathP w (mvUpto ps at_ next k) v wr) (fun _ i _ => ps.length - (intOf i).toNat)
  case atStart => exact ⟨0, Nat.zero_le _, rfl, none, 0, by simp [mvUpto], by simpa [mvUpto, flat] using World.ownsRow_nil (w.drewN n) w.heap.size 115 2, (Fr.refl _ _).drewN n⟩
  case round =>
    obtain ⟨k, hk, rfl, A1, c1, rfl, hown, hf⟩ := hrel
    have hml := mv_len (l := ps) hat k
    have hml' : (mvUpto ps at_ next k).length ≤ k + 1 := by
      (repeat' split at hml) <;> omega
    clear hml
    by_cases hlt : k < ps.length
    · obtain ⟨b1, o1, x, y, rfl, hx, hc1, hc2⟩ := (ha.fr0 hf).at_ hlt
      by_cases hkn : k = next
      · have d1 : ((k : Int) == (next : Int)) = true := by simp; omega
        have hms : Hid (mvUpto ps at_ next (k + 1) = mvUpto ps at_ next k) := by subst hkn; exact mv_skip
        clear hkn
        generalize mvUpto ps at_ next k = out at *
        go_wp2
        go_roundw
        case rel => 
          refine ⟨k + 1, by omega, by go_num, ?_⟩
          rw [hms.out]
          exact ⟨A1, c1, rfl, hown.alloc _, hf.alloc _⟩
        case measure => simp [intOf]; omega
      · have d1 : ((k : Int) == (next : Int)) = false := by simp; omega
        by_cases hka : k = at_
        · have d2 : ((k : Int) == (at_ : Int)) = true := by simp; omega
          obtain ⟨b2, o2, x', y', hA, hx', hc1', hc2'⟩ := (ha.fr0 hf).at_ hnl
          injection hA with hA
          injection hA with e1 e2
          subst e1 e2
          have hms : Hid (mvUpto ps at_ next (k + 1) = mvUpto ps at_ next k ++ [(x, y)] ++ [(x', y')]) := by subst hka; exact mv_both hx hx' hkn
          clear hkn hka
          generalize mvUpto ps at_ next k = out at *
          go_wp2_with (first | (at_builtin; refine wpList_append_pick rfl (.tmp 22) (.tmp 24) rfl (.slice A1 out.length c1) _ rfl ((hown.alloc _).alloc _) (wr.heap.size + 1) x y rfl (by simp) (by simp) (by omega) (by simp; have := hf.size; omega) ?_; intro A2 c2 w2 hown2 hg2; have hF2 := ((hf.alloc _).alloc _).app ((hown.alloc _).alloc _) (Nat.le_refl _) hg2; have r2 := (ha.fr0 hF2).at0 (by omega); obtain ⟨b3, o3, hA3, r3⟩ := r2; injection hA3 with hA3; injection hA3 with e3 e4; subst e3 e4; have g1 := (r3 next (x', y') hx'.out).1; have g2 := (r3 next (x', y') hx'.out).2; clear r3) | (at_builtin; refine wpList_append_pick rfl (.tmp 29) (.tmp 34) rfl (.slice A2 (out.length + 1) c2) _ rfl (hown2.alloc _) _ x' y' rfl (by simp) (by simp) (by omega) (by simp; have := hF2.size; omega) ?_; intro A3 c3 w3 hown3 hg3))
          go_roundw
          case rel =>
            refine ⟨k + 1, by omega, by go_num, ?_⟩
            have := gathP_more (qs := out ++ [(x, y)] ++ [(x', y')]) (ps := out ++ [(x, y)]) (p := (x', y')) (hF2.alloc _) (by rw [flat_snoc]; exact hown2.alloc _) hg3 (by rw [flat_snoc]; exact hown3) rfl
            rw [hms.out]
            exact this
          case measure => simp [intOf]; omega
        · have d2 : ((k : Int) == (at_ : Int)) = false := by simp; omega
          have hms : Hid (mvUpto ps at_ next (k + 1) = mvUpto ps at_ next k ++ [(x, y)]) := mv_one hx hkn hka
          clear hkn hka
          generalize mvUpto ps at_ next k = out at *
          go_wp2_with (at_builtin; refine wpList_append_pick rfl (.tmp 22) (.tmp 24) rfl (.slice A1 out.length c1) _ rfl ((hown.alloc _).alloc _) (wr.heap.size + 1) x y rfl (by simp) (by simp) (by omega) (by simp; have := hf.size; omega) ?_; intro A2 c2 w2 hown2 hg2)
          go_roundw
          case rel => exact ⟨k + 1, by omega, by go_num, gathP_more (p := (x, y)) ((hf.alloc _).alloc _) ((hown.alloc _).alloc _) hg2 hown2 hms.out⟩
          case measure => simp [intOf]; omega
    · have hke : k = ps.length := by omega
      have hml2 := hml'
      have hrp := (Rp.of_own hown).2
      subst hke
      have hj := joined_any A1 c1 (mvUpto ps at_ next ps.length) wr hrp (by omega) hfine
      go_wp2_with fail
      refine hj.mono ?_
      rintro e w2 ⟨A2, c2, rfl, hf2, hown2⟩
      go_wp2
      go_ret
      exact ⟨A2, c2, rfl, hf.trans hf2, own_base hown2 hf.size⟩
end Go.Proofs.YtjpbmbonccenfaaDoor

/- Join of the program. -/
namespace Go.Proofs.YtjpbmbonccenfaaDoor
open Go.RowKit
set_option linter.unusedVariables false

theorem laterFrom_range {t : Int} : ∀ (ps : List Pk) (i : Int), 0 ≤ i → (laterFrom t i ps = -1 ∨ (i ≤ laterFrom t i ps ∧ laterFrom t i ps < i + ps.length ∧ ∃ p, ps[(laterFrom t i ps - i).toNat]? = some p ∧ p.1 = t))
  | [], i, _ => by simp [laterFrom]
  | p :: ps, i, h => by
    rw [laterFrom]
    split
    · rename_i e
      right
      refine ⟨by omega, by simp; omega, p, by simp, e⟩
    · rcases laterFrom_range (t := t) ps (i + 1) (by omega) with h1 | ⟨h1, h2, p', h3, h4⟩
      · exact .inl h1
      · right
        refine ⟨by omega, by simp; omega, p', ?_, h4⟩
        rw [show (laterFrom t (i + 1) ps - i).toNat = (laterFrom t (i + 1) ps - (i + 1)).toNat + 1 by omega]
        simpa using h3
theorem later_range {ps : List Pk} {k : Nat} (h : 0 ≤ laterOf ps k) : ∃ n : Nat, laterOf ps k = n ∧ k < n ∧ n < ps.length ∧ (ps.getD n (0, 0)).1 = (ps.getD k (0, 0)).1 := by
  rcases laterFrom_range (t := (ps.getD k (0, 0)).1) (ps.drop (k + 1)) (k + 1) (by omega) with h1 | ⟨h1, h2, p, h3, h4⟩
  · unfold laterOf at h; omega
  · refine ⟨(laterOf ps k).toNat, by omega, by unfold laterOf; omega, ?_, ?_⟩
    · unfold laterOf; simp only [List.length_drop] at h2; omega
    · rw [List.getElem?_drop] at h3
      rw [show k + 1 + (laterFrom (ps.getD k (0, 0)).1 (k + 1) (ps.drop (k + 1)) - (k + 1)).toNat = (laterOf ps k).toNat by unfold laterOf; omega] at h3
      rw [List.getD_eq_getElem?_getD, h3, ← h4]; rfl
theorem joined_facts2 {ps : List Pk} (h : checkP 0 ps = 0) : Val (joinedOf ps) ∧ tot (joinedOf ps) ≤ 65536 := by
  have := check_fine ps 0 h (by omega)
  rw [joined_rl]
  exact ⟨rl_val this.1, by rw [rl_tot]; omega⟩
theorem mv_fine {ps : List Pk} (hv : Val ps) (ht : tot ps ≤ 65536) {a n : Nat} (h : a < n) (hn : n < ps.length) : Fine (mvOf ps a n) :=
  ⟨fun p hp => by have := mv_val (at_ := a) hv hn ps.length (Nat.le_refl _) p hp; omega, by rw [mv_tot h hn]; omega⟩

/-- A schedule with one preemption less. -/
def joinAt (ps : List Pk) (at_ : Int) : List Pk × Int :=
  if (normal ps).2 ≠ 0 then ([], (normal ps).2)
  else if at_ < 0 ∨ (normal ps).1.length ≤ at_ ∨ laterOf (normal ps).1 at_.toNat < 0 then ([], 7)
  else (joinedOf (mvOf (normal ps).1 at_.toNat (laterOf (normal ps).1 at_.toNat).toNat), 0)

theorem RetNorm.no {w w1 : World} {r : List Pk × Int} {er : Int} (hf : Fr [] w w1) (h : r = ([], er)) : RetNorm w r (.returned (.tuple #[.slice none 0 0, .int .i64 er])) w1 := by
  subst h
  exact ⟨none, 0, rfl, hf, by simpa [flat] using World.ownsRow_nil w1 w.heap.size 115 2⟩

set_option maxRecDepth 100000 in
set_option maxHeartbeats 3200000 in
theorem Join_any (A : Option Addr) (c : Nat) (ps : List Pk) (at_ : Int) (w : World) (ha : Rp w A c ps) (hlen : ps.length ≤ 999999) :
    Calls Tryd.prog 48 #[.slice A ps.length c, .int .i64 at_] w (RetNorm w (joinAt ps at_)) := by
  by_cases he : (normal ps).2 = 0
  · have heb : ((normal ps).2 != 0) = false := by simp [he]
    have hck : checkP 0 ps = 0 := by
      unfold normal at he; split at he
      · assumption
      · exact absurd he (by assumption)
    have hns : (normal ps).1 = joinedOf ps := by unfold normal; rw [if_pos hck]
    have hfa := joined_facts2 hck
    have hnl := normal_len ps
    rw [← hns] at hfa
    have hj := Lib.hid (show joinAt ps at_ = if at_ < 0 ∨ (normal ps).1.length ≤ at_ ∨ laterOf (normal ps).1 at_.toNat < 0 then ([], 7)
      else (joinedOf (mvOf (normal ps).1 at_.toNat (laterOf (normal ps).1 at_.toNat).toNat), 0) by unfold joinAt; rw [if_neg (by simpa using he)])
    clear he hck hns
    have hN := Normal_any A c ps w ha (by omega)
    revert hj hfa hnl hN heb
    generalize normal ps = r
    obtain ⟨ns, er⟩ := r
    intro heb hfa hnl hj hN
    simp only at hj hfa hnl heb
    by_cases h1 : at_ < 0
    · have hj' := Lib.hid (hj.out.trans (if_pos (.inl h1)))
      clear hj
      go_enter Tryd.func48, Tryd.ntmps48
      go_wp2_with fail
      refine hN.mono ?_
      rintro e w2 ⟨A2, c2, rfl, hf2, hown2⟩
      simp only
      go_wp2
      go_ret2
      exact RetNorm.no hf2 hj'.out
    · obtain ⟨k, rfl⟩ : ∃ k : Nat, at_ = k := ⟨at_.toNat, by omega⟩
      clear h1
      have d0 : decide ((k : Int) < 0) = false := by simp
      by_cases h2 : ns.length ≤ k
      · have hj' := Lib.hid (hj.out.trans (if_pos (.inr (.inl (by omega)))))
        clear hj
        have d1 : decide (ns.length ≤ k) = true := by simpa using h2
        go_enter Tryd.func48, Tryd.ntmps48
        go_wp2_with fail
        refine hN.mono ?_
        rintro e w2 ⟨A2, c2, rfl, hf2, hown2⟩
        simp only
        go_wp2
        go_ret2
        exact RetNorm.no hf2 hj'.out
      · have d1 : decide (ns.length ≤ k) = false := by simpa using h2
        have hkl : k < ns.length := by omega
        clear h2
        by_cases h3 : laterOf ns k < 0
        · have hj' := Lib.hid (hj.out.trans (if_pos (.inr (.inr (by simpa using h3)))))
          clear hj
          go_enter Tryd.func48, Tryd.ntmps48
          go_wp2_with fail
          refine hN.mono ?_
          rintro e w2 ⟨A2, c2, rfl, hf2, hown2⟩
          simp only
          go_wp2_with fail
          refine (later_any _ _ ns k _ (Rp.of_own hown2).2 hkl).mono ?_
          rintro e w' ⟨rfl, n, rfl⟩
          go_wp2
          go_ret2
          exact RetNorm.no (hf2.drewN n) hj'.out
        · obtain ⟨nx, hnx, hkn, hnl2, _⟩ := later_range (show 0 ≤ laterOf ns k by omega)
          have hj' := hj.out
          rw [if_neg (by simp only [Int.toNat_natCast]; omega), Int.toNat_natCast, hnx, Int.toNat_natCast] at hj'
          have HJ := Lib.hid hj'
          have HX := Lib.hid hnx
          have d3 : decide (laterOf ns k < 0) = false := by simpa using h3
          have hfn := mv_fine hfa.1 hfa.2 hkn hnl2
          clear hj hj' hnx h3 hfa
          go_enter Tryd.func48, Tryd.ntmps48
          go_wp2_with fail
          refine hN.mono ?_
          rintro e w2 ⟨A2, c2, rfl, hf2, hown2⟩
          simp only
          have hr := (Rp.of_own hown2).2
          go_wp2_with fail
          refine (later_any _ _ ns k _ hr hkl).mono ?_
          rintro e w' ⟨rfl, n, rfl⟩
          go_wp2_with fail
          refine (moved_any _ _ ns k nx _ (hr.drewN _) (by omega) hkn hnl2 HX hfn).mono ?_
          rintro e w3 ⟨A3, c3, rfl, hf3, hown3⟩
          go_wp2
          go_ret2
          rw [HJ.out]
          exact ⟨A3, c3, rfl, (hf2.drewN n).trans hf3, own_base hown3 hf2.size⟩
  · have heb : ((normal ps).2 != 0) = true := by simpa using he
    have hj := Lib.hid (show joinAt ps at_ = ([], (normal ps).2) by unfold joinAt; rw [if_pos he])
    clear he
    go_enter Tryd.func48, Tryd.ntmps48
    go_wp2_with fail
    refine (Normal_any A c ps w ha (by omega)).mono ?_
    rintro e w2 ⟨A2, c2, rfl, hf2, hown2⟩
    go_wp2
    go_ret2
    exact RetNorm.no hf2 hj.out
end Go.Proofs.YtjpbmbonccenfaaDoor

/- later, Preemptions, Join of the reference. -/
namespace Go.Proofs.YtjpbmbonccenfaaDoor
open Go.RowKit
set_option linter.unusedVariables false

set_option maxHeartbeats 400000 in
theorem refLater_any (A : Option Addr) (c : Nat) (ps : List Pk) (at_ : Nat) (w : World) (ha : Rp w A c ps) (hat : at_ < ps.length) :
    Calls Tryd.prog 94 #[.slice A ps.length c, .int .i64 (at_ : Nat)] w (RetQ w (.int .i64 (laterOf ps at_))) := by
  have ha1 := ha.bound
  obtain ⟨b0, o0, t, y0, hA, ht, hc0, _⟩ := ha.at_ hat
  have HT : Hid (laterOf ps at_ = laterFrom t (at_ + 1) (ps.drop (at_ + 1))) := by
    show laterOf ps at_ = _
    unfold laterOf
    rw [List.getD_eq_getElem?_getD, ht.out]
    rfl
  go_enter Tryd.func94, Tryd.ntmps94
  go_wp2
  go_loopw [5] (fun i wr => ∃ k : Nat, at_ + 1 ≤ k ∧ k ≤ ps.length ∧ i = .int .i64 k ∧ Hid (laterOf ps at_ = laterFrom t k (ps.drop k)) ∧ ∃ n, wr = w.drewN n) (fun i _ => ps.length - (intOf i).toNat)
  case atStart => exact ⟨at_ + 1, Nat.le_refl _, hat, rfl, HT, 0, rfl⟩
  case round =>
    obtain ⟨k, hk0, hk, rfl, HE, n, rfl⟩ := hrel
    by_cases hlt : k < ps.length
    · obtain ⟨b1, o1, x, y, hA1, hx, hc1, hc2⟩ := ha.at_ hlt
      subst hA
      obtain ⟨rfl, rfl⟩ : b0 = b1 ∧ o0 = o1 := by simpa using hA1
      clear hA1
      by_cases he : x = t
      · have hb : (x == t) = true := by simpa using he
        have hfin := Lib.hid (later_hit hx he k)
        clear he
        go_wp2
        go_quiet (fail)
        go_wp2
        go_ret
        exact ⟨ret_int (by rw [HE.out, hfin.out]), _, by first | rfl | exact World.drewN_drewN ..⟩
      · have hb : (x == t) = false := by simpa using he
        have hfin := Lib.hid (later_miss hx he k)
        clear he
        go_wp2
        go_quiet (fail)
        go_wp2
        go_roundw
        case rel => exact ⟨k + 1, by omega, by omega, by go_num, by show _ = _; rw [HE.out, hfin.out]; rfl, _, by first | rfl | exact World.drewN_drewN ..⟩
        case measure => simp [intOf]; omega
    · have hfin := Lib.hid (later_end (t := t) (ps := ps) (k := k) (by omega) k)
      go_wp2
      go_ret
      exact ⟨ret_int (by rw [HE.out, hfin.out]), _, rfl⟩


set_option maxHeartbeats 1600000 in
theorem refPreemptions_any (A : Option Addr) (c : Nat) (ps : List Pk) (w : World) (ha : Rp w A c ps) (hlen : ps.length ≤ 1000000) :
    Calls Tryd.prog 38 #[.slice A ps.length c] w (RetNums w (preemptions ps)) := by
  go_enter Tryd.func38, Tryd.ntmps38
  go_wp2_with fail
  refine (refNormal_any A c ps w ha hlen).mono ?_
  rintro e w2 ⟨A2, c2, rfl, hf2, hown2⟩
  have hnl := normal_len ps
  by_cases he : (normal ps).2 = 0
  · have heb : ((normal ps).2 != 0) = false := by simp [he]
    have hpr := Lib.hid (show preemptions ps = (preempts (normal ps).1, 0) by unfold preemptions; rw [if_pos he])
    have hr := (Rp.of_own hown2).2
    have HE := Lib.hid he
    clear he hown2
    generalize (normal ps).1 = ns at *
    generalize (normal ps).2 = er at *
    go_wp2
    go_loopw [5, 6] (fun v i wr => ∃ k : Nat, k ≤ ns.length ∧ i = .int .i64 k ∧ Gath w2 3 ((preUpto ns k).map (.int .i64)) v wr) (fun _ i _ => ns.length - (intOf i).toNat)
    case atStart => exact ⟨0, Nat.zero_le _, rfl, Gath.start _ _ (by simp [preUpto])⟩
    case round =>
      obtain ⟨k, hk, rfl, A1, c1, rfl, hown, hf⟩ := hrel
      simp only [List.length_map] at hown
      have hpl := pre_le ns k
      by_cases hlt : k < ns.length
      · by_cases hl : 0 ≤ laterOf ns k
        · have hd : decide (0 ≤ laterOf ns k) = true := by simpa using hl
          go_wp2_with (first
            | (at_builtin
               refine wpList_append_rd rfl (.tmp 25) (.tmp 27) _ rfl elemInts (.slice A1 (preUpto ns k).length c1) _ rfl (own_drewN (hown.alloc _) _) _ _ [(k : Int)] (.int .i64) rfl ((Rd.one _ _ _ _).drewN _) one_i64 (by simp; omega) (by simp; have := hf.size; omega) ?_
               intro A4 c4 w4 hown4 hg4 hat4)
            | (go_at_call 94; refine (refLater_any _ _ ns k _ (hr.fr0 hf) hlt).mono ?_; rintro e w' ⟨rfl, n, rfl⟩))
          go_roundw
          case rel => exact ⟨k + 1, by omega, by go_num, Gath.snoc ((hf.alloc _).drewN n) (own_drewN (hown.alloc _) _) hg4 hown4 (by rw [pre_yes hl]; simp)⟩
          case measure => simp [intOf]; omega
        · have hd : decide (0 ≤ laterOf ns k) = false := by simpa using hl
          go_wp2_with (go_at_call 94; refine (refLater_any _ _ ns k _ (hr.fr0 hf) hlt).mono ?_; rintro e w' ⟨rfl, n, rfl⟩)
          go_roundw
          case rel => exact ⟨k + 1, by omega, by go_num, Gath.same (hf.drewN n) (own_drewN hown _) (by rw [pre_no (by omega)])⟩
          case measure => simp [intOf]; omega
      · go_wp2
        go_ret2
        exact RetNums.ok (zs := preUpto ns k) (hf2.trans hf) (own_base (by simpa using hown) hf2.size) (by rw [hpr.out, show k = ns.length by omega]; rfl)
  · have heb : ((normal ps).2 != 0) = true := by simpa using he
    have hpr := Lib.hid (show preemptions ps = ([], (normal ps).2) by unfold preemptions; rw [if_neg he])
    clear he
    go_wp2
    go_ret2
    exact RetNums.err hf2 hpr.out

set_option maxRecDepth 100000 in
set_option maxHeartbeats 3200000 in
theorem refJoin_any (A : Option Addr) (c : Nat) (ps : List Pk) (at_ : Int) (w : World) (ha : Rp w A c ps) (hlen : ps.length ≤ 999999) :
    Calls Tryd.prog 39 #[.slice A ps.length c, .int .i64 at_] w (RetNorm w (joinAt ps at_)) := by
  by_cases he : (normal ps).2 = 0
  · have heb : ((normal ps).2 != 0) = false := by simp [he]
    have hck : checkP 0 ps = 0 := by
      unfold normal at he; split at he
      · assumption
      · exact absurd he (by assumption)
    have hns : (normal ps).1 = joinedOf ps := by unfold normal; rw [if_pos hck]
    have hfa := joined_facts2 hck
    have hnl := normal_len ps
    rw [← hns] at hfa
    have hj := Lib.hid (show joinAt ps at_ = if at_ < 0 ∨ (normal ps).1.length ≤ at_ ∨ laterOf (normal ps).1 at_.toNat < 0 then ([], 7)
      else (joinedOf (mvOf (normal ps).1 at_.toNat (laterOf (normal ps).1 at_.toNat).toNat), 0) by unfold joinAt; rw [if_neg (by simpa using he)])
    clear he hck hns
    have hN := refNormal_any A c ps w ha (by omega)
    revert hj hfa hnl hN heb
    generalize normal ps = r
    obtain ⟨ns, er⟩ := r
    intro heb hfa hnl hj hN
    simp only at hj hfa hnl heb
    by_cases h1 : at_ < 0
    · have hj' := Lib.hid (hj.out.trans (if_pos (.inl h1)))
      clear hj
      go_enter Tryd.func39, Tryd.ntmps39
      go_wp2_with fail
      refine hN.mono ?_
      rintro e w2 ⟨A2, c2, rfl, hf2, hown2⟩
      simp only
      go_wp2
      go_ret2
      exact RetNorm.no hf2 hj'.out
    · obtain ⟨k, rfl⟩ : ∃ k : Nat, at_ = k := ⟨at_.toNat, by omega⟩
      clear h1
      have d0 : decide ((k : Int) < 0) = false := by simp
      by_cases h2 : ns.length ≤ k
      · have hj' := Lib.hid (hj.out.trans (if_pos (.inr (.inl (by omega)))))
        clear hj
        have d1 : decide (ns.length ≤ k) = true := by simpa using h2
        go_enter Tryd.func39, Tryd.ntmps39
        go_wp2_with fail
        refine hN.mono ?_
        rintro e w2 ⟨A2, c2, rfl, hf2, hown2⟩
        simp only
        go_wp2
        go_ret2
        exact RetNorm.no hf2 hj'.out
      · have d1 : decide (ns.length ≤ k) = false := by simpa using h2
        have hkl : k < ns.length := by omega
        clear h2
        by_cases h3 : laterOf ns k < 0
        · have hj' := Lib.hid (hj.out.trans (if_pos (.inr (.inr (by simpa using h3)))))
          clear hj
          go_enter Tryd.func39, Tryd.ntmps39
          go_wp2_with fail
          refine hN.mono ?_
          rintro e w2 ⟨A2, c2, rfl, hf2, hown2⟩
          simp only
          go_wp2_with fail
          refine (refLater_any _ _ ns k _ (Rp.of_own hown2).2 hkl).mono ?_
          rintro e w' ⟨rfl, n, rfl⟩
          go_wp2
          go_ret2
          exact RetNorm.no (hf2.drewN n) hj'.out
        · obtain ⟨nx, hnx, hkn, hnl2, _⟩ := later_range (show 0 ≤ laterOf ns k by omega)
          have hj' := hj.out
          rw [if_neg (by simp only [Int.toNat_natCast]; omega), Int.toNat_natCast, hnx, Int.toNat_natCast] at hj'
          have HJ := Lib.hid hj'
          have HX := Lib.hid hnx
          have d3 : decide (laterOf ns k < 0) = false := by simpa using h3
          have hlm : (mvOf ns k nx).length = ns.length := by
            have := mv_len (l := ns) hkn ns.length
            rw [if_pos hnl2, if_pos (show k < ns.length by omega)] at this
            unfold mvOf; omega
          have HNM : Hid (joinAt ps k = normal (mvOf ns k nx)) := by
            show _ = _
            rw [hj']
            unfold normal
            have ht : tot (mvOf ns k nx) = tot ns := mv_tot hkn hnl2
            have hck2 : checkP 0 (mvOf ns k nx) = 0 := checkP_ok _ 0 (mv_val hfa.1 hnl2 _ (Nat.le_refl _)) (by rw [ht]; have := hfa.2; omega) (Int.le_refl _)
            rw [if_pos hck2]
          clear hj hj' hnx h3 hfa HJ
          go_enter Tryd.func39, Tryd.ntmps39
          go_wp2_with fail
          refine hN.mono ?_
          rintro e w2 ⟨A2, c2, rfl, hf2, hown2⟩
          simp only
          have hr := (Rp.of_own hown2).2
          clear hown2 hN
          go_wp2_with fail
          refine (refLater_any _ _ ns k _ hr hkl).mono ?_
          rintro e w' ⟨rfl, n, rfl⟩
          go_wp2_with fail
          refine (refLater_any _ _ ns k _ (hr.drewN _) hkl).mono ?_
          rw [HX.out]
          rintro e w' ⟨rfl, n2, rfl⟩
          have hF2 : Fr [] w ((w2.drewN n).drewN n2) := (hf2.drewN n).drewN n2
          have hr2 : Rp ((w2.drewN n).drewN n2) A2 c2 ns := (hr.drewN n).drewN n2
          generalize (w2.drewN n).drewN n2 = wb at *
          go_wp2_with fail
          go_loopw [8, 9] (fun v i wr => ∃ m : Nat, m ≤ ns.length ∧ i = .int .i64 m ∧ GathP wb (mvUpto ns k nx m) v wr) (fun _ i _ => ns.length - (intOf i).toNat)
          case atStart => exact ⟨0, Nat.zero_le _, rfl, none, 0, by simp [mvUpto], by simpa [mvUpto, flat] using World.ownsRow_nil wb wb.heap.size 115 2, Fr.refl _ _⟩
          case round =>
            obtain ⟨m, hm, rfl, A1, c1, rfl, hown, hf⟩ := hrel
            have hml := mv_len (l := ns) hkn m
            have hml' : (mvUpto ns k nx m).length ≤ m + 1 := by
              (repeat' split at hml) <;> omega
            clear hml
            by_cases hlt : m < ns.length
            · obtain ⟨b1, o1, x, y, rfl, hx, hc1, hc2⟩ := (hr2.fr0 hf).at_ hlt
              by_cases hmn : m = nx
              · have e1 : ((m : Int) != (nx : Int)) = false := by simp; omega
                have e2 : ((m : Int) == (k : Int)) = false := by simp; omega
                have hms : Hid (mvUpto ns k nx (m + 1) = mvUpto ns k nx m) := by subst hmn; exact mv_skip
                clear hmn
                generalize mvUpto ns k nx m = out at *
                go_wp2
                go_roundw
                case rel =>
                  refine ⟨m + 1, by omega, by go_num, ?_⟩
                  rw [hms.out]
                  exact ⟨A1, c1, rfl, hown, hf⟩
                case measure => simp [intOf]; omega
              · have e1 : ((m : Int) != (nx : Int)) = true := by simp; omega
                by_cases hma : m = k
                · have e2 : ((m : Int) == (k : Int)) = true := by simp; omega
                  obtain ⟨b2, o2, x', y', hA, hx', hc1', hc2'⟩ := (hr2.fr0 hf).at_ hnl2
                  injection hA with hA
                  injection hA with z1 z2
                  subst z1 z2
                  have hms : Hid (mvUpto ns k nx (m + 1) = mvUpto ns k nx m ++ [(x, y)] ++ [(x', y')]) := by subst hma; exact mv_both hx hx' hmn
                  clear hmn hma
                  generalize mvUpto ns k nx m = out at *
                  go_wp2_with (first | (at_builtin; refine wpList_append_pick rfl (.tmp 44) (.tmp 49) rfl (.slice A1 out.length c1) _ rfl (hown.alloc _) wr.heap.size x y rfl (by simp) (by simp) (by omega) (by simp; have := hf.size; omega) ?_; intro A3 c3 w3 hown3 hg3; have hF3 := (hf.alloc _).app (hown.alloc _) (Nat.le_refl _) hg3; have r3 := (hr2.fr0 hF3).at0 (by omega); obtain ⟨b3, o3, hA3, r4⟩ := r3; injection hA3 with hA3; injection hA3 with z3 z4; subst z3 z4; have g1 := (r4 nx (x', y') hx'.out).1; have g2 := (r4 nx (x', y') hx'.out).2; clear r4) | (at_builtin; refine wpList_append_pick rfl (.tmp 54) (.tmp 59) rfl (.slice A3 (out.length + 1) c3) _ rfl (hown3.alloc _) _ x' y' rfl (by simp) (by simp) (by omega) (by simp; have := hF3.size; omega) ?_; intro A4 c4 w4 hown4 hg4))
                  go_roundw
                  case rel =>
                    refine ⟨m + 1, by omega, by go_num, ?_⟩
                    have := gathP_more (qs := out ++ [(x, y)] ++ [(x', y')]) (ps := out ++ [(x, y)]) (p := (x', y')) (hF3.alloc _) (by rw [flat_snoc]; exact hown3.alloc _) hg4 (by rw [flat_snoc]; exact hown4) rfl
                    rw [hms.out]
                    exact this
                  case measure => simp [intOf]; omega
                · have e2 : ((m : Int) == (k : Int)) = false := by simp; omega
                  have hms : Hid (mvUpto ns k nx (m + 1) = mvUpto ns k nx m ++ [(x, y)]) := mv_one hx hmn hma
                  clear hmn hma
                  generalize mvUpto ns k nx m = out at *
                  go_wp2_with (at_builtin; refine wpList_append_pick rfl (.tmp 44) (.tmp 49) rfl (.slice A1 out.length c1) _ rfl (hown.alloc _) wr.heap.size x y rfl (by simp) (by simp) (by omega) (by simp; have := hf.size; omega) ?_; intro A3 c3 w3 hown3 hg3)
                  go_roundw
                  case rel => exact ⟨m + 1, by omega, by go_num, gathP_more (p := (x, y)) (hf.alloc _) (hown.alloc _) hg3 hown3 hms.out⟩
                  case measure => simp [intOf]; omega
            · have hke : m = ns.length := by omega
              have hrp := (Rp.of_own hown).2
              subst hke
              have hN2 := refNormal_any A1 c1 (mvUpto ns k nx ns.length) wr hrp (by omega)
              rw [show mvUpto ns k nx ns.length = mvOf ns k nx from rfl] at hN2
              have hF3 := hF2.trans hf
              have hFz := hF3.size
              rw [← HNM.out] at hN2
              clear hown hrp hf hml'
              generalize joinAt ps k = r at *
              obtain ⟨rl_, er_⟩ := r
              go_wp2_with fail
              refine hN2.mono ?_
              rintro e w3 ⟨A3, c3, rfl, hf3, hown3⟩
              go_wp2
              go_ret2
              exact ⟨A3, c3, rfl, hF3.trans hf3, own_base hown3 hFz⟩
  · have heb : ((normal ps).2 != 0) = true := by simpa using he
    have hj := Lib.hid (show joinAt ps at_ = ([], (normal ps).2) by unfold joinAt; rw [if_pos he])
    clear he
    go_enter Tryd.func39, Tryd.ntmps39
    go_wp2_with fail
    refine (refNormal_any A c ps w ha (by omega)).mono ?_
    rintro e w2 ⟨A2, c2, rfl, hf2, hown2⟩
    go_wp2
    go_ret2
    exact RetNorm.no hf2 hj.out
end Go.Proofs.YtjpbmbonccenfaaDoor

/- Normal of the reference, of a schedule of any length. -/
namespace Go.Proofs.YtjpbmbonccenfaaDoor
open Go.RowKit
set_option linter.unusedVariables false

set_option maxRecDepth 100000 in
set_option maxHeartbeats 3200000 in
theorem refNormalU_any (A : Option Addr) (c : Nat) (ps : List Pk) (w : World) (ha : Rp w A c ps) :
    Calls Tryd.prog 33 #[.slice A ps.length c] w (RetNorm w (normal ps)) := by
  go_enter Tryd.func33, Tryd.ntmps33
  go_wp2
  go_loopw [4, 5, 6] (fun sv v i wr => ∃ (k : Nat) (s : Int), k ≤ ps.length ∧ i = .int .i64 k ∧ sv = .int .i64 s ∧ (k : Int) ≤ s ∧ s ≤ 65536 ∧ Hid (checkP 0 ps = checkP s (ps.drop k)) ∧ Hid ((∀ p ∈ ps.take k, 0 ≤ p.2) ∧ tot (ps.take k) = s) ∧ GathP w (joinedOf (ps.take k)) v wr) (fun _ _ i _ => ps.length - (intOf i).toNat)
  case atStart => exact ⟨0, 0, Nat.zero_le _, rfl, rfl, by omega, by omega, by show _ = _; simp, by show _ ∧ _; simp [tot], none, 0, by simp [joinedOf], by simpa [joinedOf, flat] using World.ownsRow_nil w w.heap.size 115 2, Fr.refl _ _⟩
  case round =>
    obtain ⟨k, s, hk, rfl, rfl, hs0, hs1, hck, htk, A1, c1, rfl, hown, hf⟩ := hrel
    by_cases hlt : k < ps.length
    · obtain ⟨b1, o1, x, y, rfl, hx, hc1, hc2⟩ := (ha.fr0 hf).at_ hlt
      have hca := check_at hx s
      by_cases h1 : x < 0
      · rw [if_pos (by omega)] at hca
        have HC : Hid (checkP 0 ps = 1) := hck.out.trans hca
        have d1 : decide (x < 0) = true := by simpa using h1
        clear hca hck htk hown
        go_wp2
        go_ret2
        exact RetNorm.err hf HC (by omega)
      · have d1 : decide (x < 0) = false := by simpa using h1
        by_cases h2 : 8 ≤ x
        · rw [if_pos (by omega)] at hca
          have HC : Hid (checkP 0 ps = 1) := hck.out.trans hca
          have d2 : decide (8 ≤ x) = true := by simpa using h2
          clear hca hck htk hown
          go_wp2
          go_ret2
          exact RetNorm.err hf HC (by omega)
        · have d2 : decide (8 ≤ x) = false := by simpa using h2
          by_cases h3 : y < 1
          · rw [if_pos (by omega)] at hca
            have HC : Hid (checkP 0 ps = 1) := hck.out.trans hca
            have d3 : decide (y < 1) = true := by simpa using h3
            clear hca hck htk hown
            go_wp2
            go_ret2
            exact RetNorm.err hf HC (by omega)
          · have d3 : decide (y < 1) = false := by simpa using h3
            rw [if_neg (by omega)] at hca
            by_cases h4 : 65536 - s < y
            · rw [if_pos h4] at hca
              have HC : Hid (checkP 0 ps = 3) := hck.out.trans hca
              clear hca hck htk hown
              go_wp2
              go_ret2
              exact RetNorm.err hf HC (by omega)
            · rw [if_neg h4] at hca
              have HC : Hid (checkP 0 ps = checkP (s + y) (ps.drop (k + 1))) := hck.out.trans hca
              have htk' := tot_take_succ hx htk (by omega)
              have hstep := joined_take hx
              have hjf := joined_facts (ps.take k) htk.out.1
              obtain ⟨hj1, hj2, hj3⟩ := hjf
              have hj4 : (ps.take k).length ≤ k := by simp; omega
              rw [htk.out.2] at hj2
              generalize joinedOf (ps.take k) = out at *
              have HS := Lib.hid hstep
              have HJ := Lib.hid hj1
              clear hstep hj1 hca hck
              by_cases hz : out.length = 0
              · have hd : decide (0 < out.length) = false := by simp [hz]
                have hz1 : (out.length : Int) ≤ 0 := by omega
                have HZ := Lib.hid hz
                clear hz
                go_wp2
                go_quiet (fail)
                go_wp2_with (at_builtin; refine wpList_append_pick rfl (.tmp 86) (.tmp 91) rfl (.slice A1 out.length c1) _ rfl (own_drewN (hown.alloc _) _) wr.heap.size x y rfl (by simp) (by simp) (by omega) (by simp; have := hf.size; omega) ?_; intro A2 c2 w2 hown2 hg2)
                go_roundw
                case rel =>
                  refine ⟨k + 1, s + y, by omega, by go_num, rfl, by omega, by omega, HC, htk', gathP_more (p := (x, y)) ((hf.alloc _).drewN _) (own_drewN (hown.alloc _) _) hg2 hown2 ?_⟩
                  rw [HS.out, join_first _ HZ.out]
                  have := List.eq_nil_of_length_eq_zero HZ.out
                  simp [this]
                case measure => simp [intOf]; omega
              · have hlast : out[out.length - 1]? = some out[out.length - 1] := List.getElem?_eq_getElem (by omega)
                obtain ⟨g, rfl, hg1, hg2⟩ := own_some hown (by omega)
                have a0 := hown.cellAt ((out.length - 1) * 2) (by omega)
                have a1 := hown.cellAt ((out.length - 1) * 2 + 1) (by omega)
                rw [flat_at0, hlast] at a0
                rw [flat_at1, hlast] at a1
                have a2 := hown.frozenAt ((out.length - 1) * 2 + 1)
                have hq0 := HJ.out _ (List.mem_of_getElem? hlast)
                have hq1 := tot_mem_le HJ.out (List.mem_of_getElem? hlast)
                generalize hq : out[out.length - 1] = q at *
                obtain ⟨q1, q2⟩ := q
                simp only [Option.map_some] at a0 a1
                simp only at hq0 hq1
                have HL := Lib.hid hlast
                clear hlast hq
                have hd : decide (0 < out.length) = true := by simp; omega
                have hlt' : out.length - 1 < out.length := by omega
                by_cases he : q1 = x
                · have hb : (q1 == x) = true := by simpa using he
                  have HE := Lib.hid he
                  clear he
                  go_wp2
                  go_quiet (fail)
                  go_wp2
                  go_region
                  go_wp2
                  go_roundw
                  case rel =>
                    have hst := hown.stored ((out.length - 1) * 2 + 1) (.int .i64 (q2 + y))
                    refine ⟨k + 1, s + y, by omega, by go_num, rfl, by omega, by omega, HC, htk', gathP_set (ps := out.set (out.length - 1) (q1, q2 + y)) (hf.setCell (p := ⟨g, (out.length - 1) * 2 + 1, none⟩) (.inr (by have := hf.size; omega)) _) hst.1 ?_ ?_ ?_⟩
                    · rw [HS.out, join_same HL.out HE.out]
                    · rw [flat_set _ _ _ _ HL.out]
                    · exact ⟨rfl, rfl, rfl, rfl⟩
                  case measure => simp [intOf]; omega
                · have hb : (q1 == x) = false := by simpa using he
                  have HE := Lib.hid he
                  clear he
                  go_wp2
                  go_quiet (fail)
                  go_wp2_with (at_builtin; refine wpList_append_pick rfl (.tmp 86) (.tmp 91) rfl (.slice (some ⟨g, 0, none⟩) out.length c1) _ rfl (own_drewN (hown.alloc _) _) wr.heap.size x y rfl (by simp) (by simp) (by omega) (by simp; have := hf.size; omega) ?_; intro A2 c2 w2 hown2 hg2')
                  go_roundw
                  case rel =>
                    refine ⟨k + 1, s + y, by omega, by go_num, rfl, by omega, by omega, HC, htk', gathP_more (p := (x, y)) ((hf.alloc _).drewN _) (own_drewN (hown.alloc _) _) hg2' hown2 ?_⟩
                    rw [HS.out, join_new HL.out HE.out]
                  case measure => simp [intOf]; omega
    · have HC : checkP 0 ps = 0 := by
        rw [hck.out, List.drop_of_length_le (by omega), checkP]
      go_wp2
      go_ret2
      rw [List.take_of_length_le (by omega)] at hown ⊢
      rw [show normal ps = (joinedOf ps, 0) by unfold normal; rw [if_pos HC]]
      exact ⟨_, _, rfl, hf, hown⟩
end Go.Proofs.YtjpbmbonccenfaaDoor
