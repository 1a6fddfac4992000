/- Texts of this seat, one behind the other: Pick2, Pick3, Pick4. -/
import Derived.Test.YtjpbmbonccenfaaDoorZSurp4
import Derived.Laws.StructEq
/- later, SamePicks. -/
namespace Go.Proofs.YtjpbmbonccenfaaDoor
open Go.RowKit
set_option linter.unusedVariables false

/-- The next pick of a thread from place i on: its place; -1: there is none. -/
def laterFrom (t : Int) : Int → List Pk → Int
  | _, [] => -1
  | i, p :: ps => if p.1 = t then i else laterFrom t (i + 1) ps
/-- The next later pick of the thread of the pick at a place. -/
def laterOf (ps : List Pk) (at_ : Nat) : Int := laterFrom (ps.getD at_ (0, 0)).1 (at_ + 1) (ps.drop (at_ + 1))
theorem later_hit {t : Int} {ps : List Pk} {k : Nat} {x y : Int} (h : Hid (ps[k]? = some (x, y))) (e : x = t) (i : Int) : laterFrom t i (ps.drop k) = i := by
  have hk : k < ps.length := (List.getElem?_eq_some_iff.1 h.out).1
  have he : ps[k] = (x, y) := (List.getElem?_eq_some_iff.1 h.out).2
  rw [List.drop_eq_getElem_cons hk, he, laterFrom, if_pos e]
theorem later_miss {t : Int} {ps : List Pk} {k : Nat} {x y : Int} (h : Hid (ps[k]? = some (x, y))) (e : ¬ x = t) (i : Int) : laterFrom t i (ps.drop k) = laterFrom t (i + 1) (ps.drop (k + 1)) := by
  have hk : k < ps.length := (List.getElem?_eq_some_iff.1 h.out).1
  have he : ps[k] = (x, y) := (List.getElem?_eq_some_iff.1 h.out).2
  rw [List.drop_eq_getElem_cons hk, he, laterFrom, if_neg e]
theorem later_end {t : Int} {ps : List Pk} {k : Nat} (h : ps.length ≤ k) (i : Int) : laterFrom t i (ps.drop k) = -1 := by
  rw [List.drop_of_length_le h, laterFrom]

set_option maxHeartbeats 400000 in
theorem later_any (A : Option Addr) (c : Nat) (ps : List Pk) (at_ : Nat) (w : World) (ha : Rp w A c ps) (hat : at_ < ps.length) :
    Calls Tryd.prog 92 #[.slice A ps.length c, .int .i64 (at_ : Nat)] w (RetQ w (.int .i64 (laterOf ps at_))) := by
  have ha1 := ha.bound
  obtain ⟨b0, o0, t, y0, hA, ht, hc0, _⟩ := ha.at_ hat
  have HT : Hid (laterOf ps at_ = laterFrom t (at_ + 1) (ps.drop (at_ + 1))) := by
    show laterOf ps at_ = _
    unfold laterOf
    rw [List.getD_eq_getElem?_getD, ht.out]
    rfl
  go_enter Tryd.func92, Tryd.ntmps92
  go_wp2
  go_loopw [5] (fun i wr => ∃ k : Nat, at_ + 1 ≤ k ∧ k ≤ ps.length ∧ i = .int .i64 k ∧ Hid (laterOf ps at_ = laterFrom t k (ps.drop k)) ∧ ∃ n, wr = w.drewN n) (fun i _ => ps.length - (intOf i).toNat)
  case atStart => exact ⟨at_ + 1, Nat.le_refl _, hat, rfl, HT, 0, rfl⟩
  case round =>
    obtain ⟨k, hk0, hk, rfl, HE, n, rfl⟩ := hrel
    by_cases hlt : k < ps.length
    · obtain ⟨b1, o1, x, y, hA1, hx, hc1, hc2⟩ := ha.at_ hlt
      subst hA
      obtain ⟨rfl, rfl⟩ : b0 = b1 ∧ o0 = o1 := by simpa using hA1
      clear hA1
      by_cases he : x = t
      · have hb : (x == t) = true := by simpa using he
        have hfin := Lib.hid (later_hit hx he k)
        clear he
        go_wp2
        go_quiet (fail)
        go_wp2
        go_ret
        exact ⟨ret_int (by rw [HE.out, hfin.out]), _, by first | rfl | exact World.drewN_drewN ..⟩
      · have hb : (x == t) = false := by simpa using he
        have hfin := Lib.hid (later_miss hx he k)
        clear he
        go_wp2
        go_quiet (fail)
        go_wp2
        go_roundw
        case rel => exact ⟨k + 1, by omega, by omega, by go_num, by show _ = _; rw [HE.out, hfin.out]; rfl, _, by first | rfl | exact World.drewN_drewN ..⟩
        case measure => simp [intOf]; omega
    · have hfin := Lib.hid (later_end (t := t) (ps := ps) (k := k) (by omega) k)
      go_wp2
      go_ret
      exact ⟨ret_int (by rw [HE.out, hfin.out]), _, rfl⟩

theorem takeP_succ_eq {xs ys : List Pk} {k : Nat} {x y x' y' : Int} (h : xs.take k = ys.take k) (hx : Hid (xs[k]? = some (x, y))) (hy : Hid (ys[k]? = some (x', y'))) (e : x = x') (e' : y = y') : xs.take (k + 1) = ys.take (k + 1) := by
  rw [List.take_add_one, List.take_add_one, h, hx.out, hy.out, e, e']
theorem neP_of_at {xs ys : List Pk} {k : Nat} {x y x' y' : Int} (hx : Hid (xs[k]? = some (x, y))) (hy : Hid (ys[k]? = some (x', y'))) (e : ¬ (x = x' ∧ y = y')) : xs ≠ ys := by
  rintro rfl
  exact e (by have := hx.out.symm.trans hy.out; simpa using this)

theorem run_pick_neq (x y x' y' : Int) (w : World) : (binOp .neq 115 (.agg #[.int .i64 x, .int .i64 y]) (.agg #[.int .i64 x', .int .i64 y'])).run Tryd.prog w = .ok (.bool (!(x == x' && y == y'))) w := by
  have hS : Tryd.prog.underlying 115 = some (.struct (Tryd.prog.fieldsOf 115)) := by kernel_rfl
  have hp : Tryd.prog.stoodInHeld 115 = false := by kernel_rfl
  have hI := Tryd.underlying3
  rw [run_neq_struct, show (10000 : Nat) = 9999 + 1 from rfl, run_equalIn_agg w 9999 115 _ _ hS hp]
  simp only [Program.fieldsOf, Tryd.underlying115]
  go_simp
  by_cases h1 : x = x' <;> by_cases h2 : y = y' <;> simp [h1, h2]
set_option maxHeartbeats 400000 in
theorem SamePicks_any (A B : Option Addr) (ca cb : Nat) (xs ys : List Pk) (w : World) (ha : Rp w A ca xs) (hb : Rp w B cb ys) :
    Calls Tryd.prog 46 #[.slice A xs.length ca, .slice B ys.length cb] w (RetQ w (.bool (decide (xs = ys)))) := by
  have ha1 := ha.bound
  have hb1 := hb.bound
  by_cases hl : xs.length = ys.length
  · have hl1 : (xs.length : Int) ≤ ys.length := by omega
    have hl2 : (ys.length : Int) ≤ xs.length := by omega
    have HL := Lib.hid hl
    clear hl
    go_enter Tryd.func46, Tryd.ntmps46
    go_wp2
    go_loopw [5] (fun i wr => ∃ k : Nat, k ≤ xs.length ∧ i = .int .i64 k ∧ Hid (xs.take k = ys.take k) ∧ ∃ n, wr = w.drewN n) (fun i _ => xs.length - (intOf i).toNat)
    case atStart => exact ⟨0, Nat.zero_le _, rfl, by show _ = _; simp, 0, rfl⟩
    case round =>
      obtain ⟨k, hk, rfl, HE, n, rfl⟩ := hrel
      by_cases hlt : k < xs.length
      · obtain ⟨b1, o1, x, y, rfl, hx, hc1, hc2⟩ := ha.at_ hlt
        have hlt2 : k < ys.length := by omega
        obtain ⟨b2, o2, x', y', rfl, hy, hd1, hd2⟩ := hb.at_ hlt2
        have hneq := fun (W : World) => run_pick_neq x y x' y' W
        by_cases he : x = x' ∧ y = y'
        · have hb : (!(x == x' && y == y')) = false := by simp [he.1, he.2]
          have HX := Lib.hid he
          clear he
          rw [hb] at hneq
          go_wp2
          go_quiet (fail)
          go_wp2
          go_roundw
          case rel => exact ⟨k + 1, by omega, by go_num, takeP_succ_eq HE.out hx hy HX.out.1 HX.out.2, _, by first | rfl | exact World.drewN_drewN ..⟩
          case measure => simp [intOf]; omega
        · have hb : (!(x == x' && y == y')) = true := by
            rw [Bool.not_eq_true', Bool.and_eq_false_iff]
            by_cases h1 : x = x'
            · exact .inr (by simpa using fun h2 => he ⟨h1, h2⟩)
            · exact .inl (by simpa using h1)
          have HX := Lib.hid he
          clear he
          rw [hb] at hneq
          go_wp2
          go_quiet (fail)
          go_wp2
          go_ret
          refine ⟨ret_bool ?_, _, World.drewN_drewN ..⟩
          simp [neP_of_at hx hy HX.out]
      · go_wp2
        go_ret
        refine ⟨ret_bool ?_, _, rfl⟩
        have h := HE.out
        have hl := HL.out
        rw [List.take_of_length_le (by omega), List.take_of_length_le (by omega)] at h
        simp [h]
  · have hl1 : ((xs.length : Int) != ys.length) = true := by simp; omega
    have HL := Lib.hid hl
    clear hl
    go_enter Tryd.func46, Tryd.ntmps46
    go_wp2
    go_ret
    refine ⟨ret_bool ?_, 0, rfl⟩
    simp
    intro h
    exact HL.out (by rw [h])
end Go.Proofs.YtjpbmbonccenfaaDoor

/- joined, Normal. -/
namespace Go.Proofs.YtjpbmbonccenfaaDoor
open Go.RowKit
set_option linter.unusedVariables false

def joinStep (out : List Pk) (p : Pk) : List Pk :=
  match out.getLast? with
  | some q => if q.1 = p.1 then out.set (out.length - 1) (q.1, q.2 + p.2) else out ++ [p]
  | none => [p]
/-- Picks in which neighbours of one thread are one. -/
def joinedOf (ps : List Pk) : List Pk := ps.foldl joinStep []
def tot (ps : List Pk) : Int := (ps.map (·.2)).sum
/-- Counts from 0 on, their sum not too great. -/
def Fine (ps : List Pk) : Prop := (∀ p ∈ ps, 0 ≤ p.2) ∧ tot ps ≤ 1000000000000

theorem joined_take {ps : List Pk} {k : Nat} {x y : Int} (h : Hid (ps[k]? = some (x, y))) : joinedOf (ps.take (k + 1)) = joinStep (joinedOf (ps.take k)) (x, y) := by
  rw [List.take_add_one, h.out]; simp [joinedOf]
theorem tot_append (a b : List Pk) : tot (a ++ b) = tot a + tot b := by simp [tot]
theorem tot_nonneg {ps : List Pk} (h : ∀ p ∈ ps, 0 ≤ p.2) : 0 ≤ tot ps := by
  induction ps with
  | nil => simp [tot]
  | cons p ps ih =>
    have h1 := h p (by simp)
    have h2 := ih fun q hq => h q (by simp [hq])
    simp only [tot, List.map_cons, List.sum_cons] at h2 ⊢
    omega
theorem tot_take_le {ps : List Pk} (h : ∀ p ∈ ps, 0 ≤ p.2) (k : Nat) : tot (ps.take k) ≤ tot ps := by
  have := tot_append (ps.take k) (ps.drop k)
  rw [List.take_append_drop] at this
  have h2 := tot_nonneg (ps := ps.drop k) fun p hp => h p (List.mem_of_mem_drop hp)
  omega
theorem tot_mem_le {ps : List Pk} (h : ∀ p ∈ ps, 0 ≤ p.2) {q : Pk} (hq : q ∈ ps) : q.2 ≤ tot ps := by
  induction ps with
  | nil => cases hq
  | cons p ps ih =>
    have h1 := h p (by simp)
    have h2 := tot_nonneg (ps := ps) fun q hq => h q (by simp [hq])
    rcases List.mem_cons.1 hq with rfl | hq
    · simp only [tot, List.map_cons, List.sum_cons] at h2 ⊢; omega
    · have := ih (fun q hq => h q (by simp [hq])) hq
      simp only [tot, List.map_cons, List.sum_cons] at this ⊢; omega
theorem joinStep_tot (out : List Pk) (p : Pk) : tot (joinStep out p) = tot out + p.2 := by
  unfold joinStep
  rcases out.eq_nil_or_concat with rfl | ⟨l, q, rfl⟩
  · simp [tot]
  · simp only [List.concat_eq_append, List.getLast?_append, List.getLast?_singleton, Option.some_or]
    split
    · have : (l ++ [q]).set ((l ++ [q]).length - 1) (q.1, q.2 + p.2) = l ++ [(q.1, q.2 + p.2)] := by
        simp
      rw [this]; simp [tot]; omega
    · simp [tot]; omega
theorem joinStep_nonneg {out : List Pk} {p : Pk} (h : ∀ q ∈ out, 0 ≤ q.2) (hp : 0 ≤ p.2) : ∀ q ∈ joinStep out p, 0 ≤ q.2 := by
  unfold joinStep
  rcases out.eq_nil_or_concat with rfl | ⟨l, q, rfl⟩
  · simpa using hp
  · simp only [List.concat_eq_append, List.getLast?_append, List.getLast?_singleton, Option.some_or]
    have hq := h q (by simp)
    split
    · have : (l ++ [q]).set ((l ++ [q]).length - 1) (q.1, q.2 + p.2) = l ++ [(q.1, q.2 + p.2)] := by
        simp
      rw [this]
      intro r hr
      rcases List.mem_append.1 hr with hr | hr
      · exact h r (by simp [hr])
      · simp at hr; subst hr; simp; omega
    · intro r hr
      rcases List.mem_append.1 hr with hr | hr
      · exact h r (by simpa using hr)
      · simp at hr; subst hr; exact hp
theorem joinStep_len (out : List Pk) (p : Pk) : (joinStep out p).length ≤ out.length + 1 := by
  unfold joinStep
  split
  · split <;> simp
  · simp
theorem joined_facts (ps : List Pk) (h : ∀ p ∈ ps, 0 ≤ p.2) : (∀ q ∈ joinedOf ps, 0 ≤ q.2) ∧ tot (joinedOf ps) = tot ps ∧ (joinedOf ps).length ≤ ps.length := by
  have key : ∀ (ps out : List Pk), (∀ p ∈ ps, 0 ≤ p.2) → (∀ q ∈ out, 0 ≤ q.2) → (∀ q ∈ ps.foldl joinStep out, 0 ≤ q.2) ∧ tot (ps.foldl joinStep out) = tot out + tot ps ∧ (ps.foldl joinStep out).length ≤ out.length + ps.length := by
    intro ps
    induction ps with
    | nil => intro out _ ho; exact ⟨ho, by simp [tot], by simp⟩
    | cons p ps ih =>
      intro out hp ho
      have := ih (joinStep out p) (fun q hq => hp q (by simp [hq])) (joinStep_nonneg ho (hp p (by simp)))
      refine ⟨this.1, ?_, ?_⟩
      · rw [List.foldl_cons, this.2.1, joinStep_tot]; simp [tot]; omega
      · have h3 := joinStep_len out p
        have h4 := this.2.2
        simp only [List.foldl_cons, List.length_cons] at h4 ⊢
        omega
  have := key ps [] h (by simp)
  have h0 : tot ([] : List Pk) = 0 := rfl
  exact ⟨this.1, by have := this.2.1; rw [h0, Int.zero_add] at this; exact this, by have := this.2.2; rw [List.length_nil, Nat.zero_add] at this; exact this⟩

/-- What a loop has gathered, of picks. -/
def GathP (w : World) (ps : List Pk) (v : Value) (wr : World) : Prop :=
  ∃ A c, v = .slice A ps.length c ∧ wr.ownsRow w.heap.size 115 2 (.slice A ps.length c) ps.length (flat ps) ∧ Fr [] w wr

theorem join_same {out : List Pk} {p q : Pk} (h : out[out.length - 1]? = some q) (e : q.1 = p.1) : joinStep out p = out.set (out.length - 1) (q.1, q.2 + p.2) := by
  unfold joinStep
  rw [List.getLast?_eq_getElem?, h]
  simp [e]
theorem join_new {out : List Pk} {p q : Pk} (h : out[out.length - 1]? = some q) (e : ¬ q.1 = p.1) : joinStep out p = out ++ [p] := by
  unfold joinStep
  rw [List.getLast?_eq_getElem?, h]
  simp [e]
theorem join_first {out : List Pk} (p : Pk) (h : out.length = 0) : joinStep out p = [p] := by
  obtain rfl := List.eq_nil_of_length_eq_zero h
  rfl

theorem gathP_more {w w1 w2 : World} {v : Value} {n : Nat} {ps qs : List Pk} {p : Pk} {A : Option Addr} {c : Nat} (hf : Fr [] w w1) (h1 : w1.ownsRow w.heap.size 115 2 v n (flat ps)) (hg : w1.grownBy w2 v.ownBlock)
    (h2 : w2.ownsRow w.heap.size 115 2 (.slice A (n + 1) c) (n + 1) (flat ps ++ [.int .i64 p.1, .int .i64 p.2])) (hq : qs = ps ++ [p]) : GathP w qs (.slice A (n + 1) c) w2 := by
  subst hq
  rw [← flat_snoc] at h2
  obtain ⟨hn, _⟩ := Rp.of_own h2
  rw [hn] at h2 ⊢
  exact ⟨A, c, rfl, h2, hf.app h1 (Nat.le_refl _) hg⟩
theorem gathP_set {w w1 w2 : World} {n c : Nat} {ps qs : List Pk} {A : Option Addr} {xs : List Value} (hf : Fr [] w w1) (h1 : w1.ownsRow w.heap.size 115 2 (.slice A n c) n xs) (hq : qs = ps) (hx : xs = flat ps) (hw : w2.heap = w1.heap ∧ w2.os = w1.os ∧ w2.tape = w1.tape ∧ w2.output = w1.output) : GathP w qs (.slice A n c) w2 := by
  subst hq hx
  obtain ⟨hn, _⟩ := Rp.of_own h1
  subst hn
  obtain ⟨e1, e2, e3, e4⟩ := hw
  refine ⟨A, c, rfl, ?_, e2.trans hf.os, e3.trans hf.tape, e4.trans hf.output, by rw [e1]; exact hf.size, fun k hk hm => by rw [e1]; exact hf.block k hk hm⟩
  unfold World.ownsRow at h1 ⊢
  rw [e1]
  exact h1
theorem gathP_ret {w w1 : World} {n c : Nat} {A : Option Addr} {ps qs : List Pk} (hf : Fr [] w w1) (h : w1.ownsRow w.heap.size 115 2 (.slice A n c) n (flat ps)) (hz : qs = ps) : RetPks w qs (.returned (.slice A n c)) w1 := by
  subst hz
  obtain ⟨hn, _⟩ := Rp.of_own h
  subst hn
  exact ⟨A, c, rfl, hf, h⟩

set_option maxHeartbeats 1600000 in
theorem joined_any (A : Option Addr) (c : Nat) (ps : List Pk) (w : World) (ha : Rp w A c ps) (hlen : ps.length ≤ 1000000) (hfine : Fine ps) :
    Calls Tryd.prog 98 #[.slice A ps.length c] w (RetPks w (joinedOf ps)) := by
  obtain ⟨hnn, htot⟩ := hfine
  go_enter Tryd.func98, Tryd.ntmps98
  go_wp2
  go_loopw [3, 9] (fun v i wr => ∃ k : Nat, k ≤ ps.length ∧ i = .int .i64 k ∧ GathP w (joinedOf (ps.take k)) v wr) (fun _ i _ => ps.length - (intOf i).toNat)
  case atStart => exact ⟨0, Nat.zero_le _, rfl, none, 0, by simp [joinedOf], by simpa [joinedOf, flat] using World.ownsRow_nil w w.heap.size 115 2, Fr.refl _ _⟩
  case round =>
    obtain ⟨k, hk, rfl, A1, c1, rfl, hown, hf⟩ := hrel
    by_cases hlt : k < ps.length
    · obtain ⟨b1, o1, x, y, rfl, hx, hc1, hc2⟩ := (ha.fr0 hf).at_ hlt
      have hstep := joined_take hx
      have hnt : ∀ p ∈ ps.take k, 0 ≤ p.2 := fun p hp => hnn p (List.mem_of_mem_take hp)
      have hjf := joined_facts (ps.take k) hnt
      have hy0 : 0 ≤ y := hnn (x, y) (List.mem_of_getElem? hx.out)
      have htk : tot (ps.take (k + 1)) ≤ tot ps := tot_take_le hnn _
      have htk2 : tot (ps.take (k + 1)) = tot (ps.take k) + y := by
        rw [List.take_add_one, hx.out, tot_append]; simp [tot]
      obtain ⟨hj1, hj2, hj3⟩ := hjf
      have hj4 : (ps.take k).length ≤ k := by simp; omega
      generalize joinedOf (ps.take k) = out at *
      have HS := Lib.hid hstep
      have HJ := Lib.hid hj1
      clear hstep hj1 hnt
      have hyB : y ≤ 1000000000000 := by
        have := tot_mem_le hnn (List.mem_of_getElem? hx.out)
        simp at this
        omega
      by_cases hz : out.length = 0
      · have hd : decide (0 < out.length) = false := by simp [hz]
        have hz1 : (out.length : Int) ≤ 0 := by omega
        have HZ := Lib.hid hz
        clear hz
        go_wp2
        go_quiet (fail)
        go_wp2_with (at_builtin; refine wpList_append_pick rfl (.tmp 39) (.tmp 41) rfl (.slice A1 out.length c1) _ rfl (own_drewN ((hown.alloc _).alloc _) _) (wr.heap.size + 1) x y rfl (by simp) (by simp) (by omega) (by simp; have := hf.size; omega) ?_; intro A2 c2 w2 hown2 hg2)
        go_roundw
        case rel =>
          refine ⟨k + 1, by omega, by go_num, gathP_more (p := (x, y)) (((hf.alloc _).alloc _).drewN _) (own_drewN ((hown.alloc _).alloc _) _) hg2 hown2 ?_⟩
          rw [HS.out, join_first _ HZ.out]
          have := List.eq_nil_of_length_eq_zero HZ.out
          simp [this]
        case measure => simp [intOf]; omega
      · have hlast : out[out.length - 1]? = some out[out.length - 1] := List.getElem?_eq_getElem (by omega)
        obtain ⟨g, rfl, hg1, hg2⟩ := own_some hown (by omega)
        have a0 := hown.cellAt ((out.length - 1) * 2) (by omega)
        have a1 := hown.cellAt ((out.length - 1) * 2 + 1) (by omega)
        rw [flat_at0, hlast] at a0
        rw [flat_at1, hlast] at a1
        have a2 := hown.frozenAt ((out.length - 1) * 2 + 1)
        have hq0 := HJ.out _ (List.mem_of_getElem? hlast)
        have hq1 := tot_mem_le HJ.out (List.mem_of_getElem? hlast)
        generalize hq : out[out.length - 1] = q at *
        obtain ⟨q1, q2⟩ := q
        simp only [Option.map_some] at a0 a1
        simp only at hq0 hq1
        have HL := Lib.hid hlast
        clear hlast hq
        have b0 := (World.cell?_alloc_lt wr (.cells #[.int .i64 x, .int .i64 y] 115) ⟨g, (out.length - 1) * 2, none⟩ hg2).trans a0
        have b1' := (World.cell?_alloc_lt wr (.cells #[.int .i64 x, .int .i64 y] 115) ⟨g, (out.length - 1) * 2 + 1, none⟩ hg2).trans a1
        have hd : decide (0 < out.length) = true := by simp; omega
        have hlt' : out.length - 1 < out.length := by omega
        by_cases he : q1 = x
        · have hb : (q1 == x) = true := by simpa using he
          have HE := Lib.hid he
          clear he
          go_wp2
          go_quiet (fail)
          go_wp2
          go_region
          go_wp2
          go_roundw
          case rel =>
            have hst := hown.stored ((out.length - 1) * 2 + 1) (.int .i64 (q2 + y))
            refine ⟨k + 1, by omega, by go_num, gathP_set (ps := out.set (out.length - 1) (q1, q2 + y)) ((hf.setCell (p := ⟨g, (out.length - 1) * 2 + 1, none⟩) (.inr (by have := hf.size; omega)) _).alloc (.cells #[.int .i64 x, .int .i64 y] 115)) (hst.1.alloc _) ?_ ?_ ?_⟩
            · rw [HS.out, join_same HL.out HE.out]
            · rw [flat_set _ _ _ _ HL.out]
            · exact ⟨rfl, rfl, rfl, rfl⟩
          case measure => simp [intOf]; omega
        · have hb : (q1 == x) = false := by simpa using he
          have HE := Lib.hid he
          clear he
          go_wp2
          go_quiet (fail)
          go_wp2_with (at_builtin; refine wpList_append_pick rfl (.tmp 39) (.tmp 41) rfl (.slice (some ⟨g, 0, none⟩) out.length c1) _ rfl (own_drewN ((hown.alloc _).alloc _) _) (wr.heap.size + 1) x y rfl (by simp) (by simp) (by omega) (by simp; have := hf.size; omega) ?_; intro A2 c2 w2 hown2 hg2')
          go_roundw
          case rel =>
            refine ⟨k + 1, by omega, by go_num, gathP_more (p := (x, y)) (((hf.alloc _).alloc _).drewN _) (own_drewN ((hown.alloc _).alloc _) _) hg2' hown2 ?_⟩
            rw [HS.out, join_new HL.out HE.out]
          case measure => simp [intOf]; omega
    · go_wp2
      go_ret
      exact gathP_ret hf hown (by rw [List.take_of_length_le (by omega)])
end Go.Proofs.YtjpbmbonccenfaaDoor

/- Normal, Preemptions. -/
namespace Go.Proofs.YtjpbmbonccenfaaDoor
open Go.RowKit
set_option linter.unusedVariables false

/-- The first error of a schedule, so many steps having been counted. -/
def checkP : Int → List Pk → Int
  | _, [] => 0
  | s, p :: ps => if p.1 < 0 ∨ 8 ≤ p.1 ∨ p.2 < 1 then 1 else if 65536 - s < p.2 then 3 else checkP (s + p.2) ps
/-- Normal. -/
def normal (ps : List Pk) : List Pk × Int := if checkP 0 ps = 0 then (joinedOf ps, 0) else ([], checkP 0 ps)

theorem check_at {ps : List Pk} {k : Nat} {x y : Int} (h : Hid (ps[k]? = some (x, y))) (s : Int) : checkP s (ps.drop k) = if x < 0 ∨ 8 ≤ x ∨ y < 1 then 1 else if 65536 - s < y then 3 else checkP (s + y) (ps.drop (k + 1)) := by
  have hk : k < ps.length := (List.getElem?_eq_some_iff.1 h.out).1
  have he : ps[k] = (x, y) := (List.getElem?_eq_some_iff.1 h.out).2
  rw [List.drop_eq_getElem_cons hk, he, checkP]
theorem check_fine : ∀ (ps : List Pk) (s : Int), checkP s ps = 0 → s ≤ 65536 → (∀ p ∈ ps, 0 ≤ p.1 ∧ p.1 < 8 ∧ 1 ≤ p.2) ∧ s + tot ps ≤ 65536
  | [], s, _, hs => ⟨by simp, by simpa [tot] using hs⟩
  | p :: ps, s, h, hs => by
    rw [checkP] at h
    split at h
    · cases h
    · split at h
      · cases h
      · rename_i h1 h2
        have := check_fine ps (s + p.2) h (by omega)
        refine ⟨fun q hq => ?_, ?_⟩
        · rcases List.mem_cons.1 hq with rfl | hq
          · omega
          · exact this.1 q hq
        · have h3 := this.2
          simp only [tot, List.map_cons, List.sum_cons] at h3 ⊢
          omega
theorem fine_of_check {ps : List Pk} (h : checkP 0 ps = 0) : Fine ps := by
  have := check_fine ps 0 h (by omega)
  exact ⟨fun p hp => by have := this.1 p hp; omega, by omega⟩

/-- The call returns a schedule of its own and an error. -/
def RetNorm (w : World) (r : List Pk × Int) (e : Ending) (w' : World) : Prop :=
  ∃ A c, e = .returned (.tuple #[.slice A r.1.length c, .int .i64 r.2]) ∧ Fr [] w w' ∧ w'.ownsRow w.heap.size 115 2 (.slice A r.1.length c) r.1.length (flat r.1)
theorem RetNorm.err {w w1 : World} {ps : List Pk} {er : Int} (hf : Fr [] w w1) (h : Hid (checkP 0 ps = er)) (he : er ≠ 0) : RetNorm w (normal ps) (.returned (.tuple #[.slice none 0 0, .int .i64 er])) w1 := by
  have : normal ps = ([], er) := by unfold normal; rw [h.out, if_neg he]
  rw [this]
  exact ⟨none, 0, rfl, hf, by simpa [flat] using World.ownsRow_nil w1 w.heap.size 115 2⟩

set_option maxHeartbeats 1600000 in
theorem Normal_any (A : Option Addr) (c : Nat) (ps : List Pk) (w : World) (ha : Rp w A c ps) (hlen : ps.length ≤ 1000000) :
    Calls Tryd.prog 45 #[.slice A ps.length c] w (RetNorm w (normal ps)) := by
  go_enter Tryd.func45, Tryd.ntmps45
  go_wp2
  go_loopw [4, 9] (fun v i wr => ∃ (k : Nat) (s : Int), k ≤ ps.length ∧ i = .int .i64 k ∧ v = .int .i64 s ∧ 0 ≤ s ∧ s ≤ 65536 ∧ Hid (checkP 0 ps = checkP s (ps.drop k)) ∧ Fr [] w wr) (fun _ i _ => ps.length - (intOf i).toNat)
  case atStart => exact ⟨0, 0, Nat.zero_le _, rfl, rfl, by omega, by omega, by show _ = _; simp, Fr.refl _ _⟩
  case round =>
    obtain ⟨k, s, hk, rfl, rfl, hs0, hs1, hck, hf⟩ := hrel
    by_cases hlt : k < ps.length
    · obtain ⟨b1, o1, x, y, rfl, hx, hc1, hc2⟩ := (ha.fr0 hf).at_ hlt
      have hca := check_at hx s
      by_cases h1 : x < 0
      · rw [if_pos (by omega)] at hca
        have HC : Hid (checkP 0 ps = 1) := hck.out.trans hca
        have d1 : decide (x < 0) = true := by simpa using h1
        clear hca hck
        go_wp2
        go_ret2
        exact RetNorm.err (hf.alloc _) HC (by omega)
      · have d1 : decide (x < 0) = false := by simpa using h1
        by_cases h2 : 8 ≤ x
        · rw [if_pos (by omega)] at hca
          have HC : Hid (checkP 0 ps = 1) := hck.out.trans hca
          have d2 : decide (8 ≤ x) = true := by simpa using h2
          clear hca hck
          go_wp2
          go_ret2
          exact RetNorm.err (hf.alloc _) HC (by omega)
        · have d2 : decide (8 ≤ x) = false := by simpa using h2
          by_cases h3 : y < 1
          · rw [if_pos (by omega)] at hca
            have HC : Hid (checkP 0 ps = 1) := hck.out.trans hca
            have d3 : decide (y < 1) = true := by simpa using h3
            clear hca hck
            go_wp2
            go_ret2
            exact RetNorm.err (hf.alloc _) HC (by omega)
          · have d3 : decide (y < 1) = false := by simpa using h3
            rw [if_neg (by omega)] at hca
            by_cases h4 : 65536 - s < y
            · rw [if_pos h4] at hca
              have HC : Hid (checkP 0 ps = 3) := hck.out.trans hca
              clear hca hck
              go_wp2
              go_ret2
              exact RetNorm.err (hf.alloc _) HC (by omega)
            · rw [if_neg h4] at hca
              have HC : Hid (checkP 0 ps = checkP (s + y) (ps.drop (k + 1))) := hck.out.trans hca
              clear hca hck
              go_wp2
              go_roundw
              case rel => exact ⟨k + 1, s + y, by omega, by go_num, rfl, by omega, by omega, HC, hf.alloc _⟩
              case measure => simp [intOf]; omega
    · have HC : Hid (checkP 0 ps = 0) := by
        show _ = _
        rw [hck.out, List.drop_of_length_le (by omega), checkP]
      clear hck
      go_wp2_with fail
      refine (joined_any A c ps _ (ha.fr0 hf) hlen (fine_of_check HC.out)).mono ?_
      rintro e w2 ⟨A2, c2, rfl, hf2, hown2⟩
      go_wp2
      go_ret2
      rw [show normal ps = (joinedOf ps, 0) by unfold normal; rw [if_pos HC.out]]
      exact ⟨A2, c2, rfl, hf.trans hf2, own_base hown2 hf.size⟩

/-- The preemptions of a normal form. -/
def preemptAt (ps : List Pk) (k : Nat) : Bool := decide (0 ≤ laterOf ps k)
def preempts (ps : List Pk) : List Int := ((List.range ps.length).filter (preemptAt ps)).map fun (k : Nat) => (k : Int)
def preUpto (ps : List Pk) (k : Nat) : List Int := ((List.range k).filter (preemptAt ps)).map fun (k : Nat) => (k : Int)
theorem pre_yes {ps : List Pk} {k : Nat} (h : 0 ≤ laterOf ps k) : preUpto ps (k + 1) = preUpto ps k ++ [(k : Int)] := by
  simp [preUpto, List.range_succ, List.filter_append, preemptAt, h]
theorem pre_no {ps : List Pk} {k : Nat} (h : ¬ 0 ≤ laterOf ps k) : preUpto ps (k + 1) = preUpto ps k := by
  simp [preUpto, List.range_succ, List.filter_append, preemptAt, h]
theorem pre_le (ps : List Pk) (k : Nat) : (preUpto ps k).length ≤ k := by
  unfold preUpto
  rw [List.length_map]
  exact Nat.le_trans (List.length_filter_le _ _) (by simp)
/-- Preemptions. -/
def preemptions (ps : List Pk) : List Int × Int := if (normal ps).2 = 0 then (preempts (normal ps).1, 0) else ([], (normal ps).2)

/-- The call returns numbers of its own and an error. -/
def RetNums (w : World) (r : List Int × Int) (e : Ending) (w' : World) : Prop :=
  ∃ A c, e = .returned (.tuple #[.slice A r.1.length c, .int .i64 r.2]) ∧ Fr [] w w' ∧ w'.ownsRow w.heap.size 3 1 (.slice A r.1.length c) r.1.length (r.1.map (.int .i64))
theorem RetNums.err {w w1 : World} {r : List Int × Int} {er : Int} (hf : Fr [] w w1) (h : r = ([], er)) : RetNums w r (.returned (.tuple #[.slice none 0 0, .int .i64 er])) w1 := by
  subst h
  exact ⟨none, 0, rfl, hf, by simpa using World.ownsRow_nil w1 w.heap.size 3 1⟩
theorem RetNums.ok {w w1 : World} {r : List Int × Int} {er : Int} {n c : Nat} {A : Option Addr} {zs : List Int} (hf : Fr [] w w1) (ho : w1.ownsRow w.heap.size 3 1 (.slice A n c) n (zs.map (.int .i64))) (h : r = (zs, er)) : RetNums w r (.returned (.tuple #[.slice A n c, .int .i64 er])) w1 := by
  subst h
  obtain ⟨hn, _⟩ := Rd.of_own ho
  subst hn
  exact ⟨A, c, rfl, hf, ho⟩

theorem normal_len (ps : List Pk) : (normal ps).1.length ≤ ps.length := by
  unfold normal
  split
  · rename_i h
    exact (joined_facts ps (fine_of_check h).1).2.2
  · simp

set_option maxHeartbeats 1600000 in
theorem Preemptions_any (A : Option Addr) (c : Nat) (ps : List Pk) (w : World) (ha : Rp w A c ps) (hlen : ps.length ≤ 1000000) :
    Calls Tryd.prog 47 #[.slice A ps.length c] w (RetNums w (preemptions ps)) := by
  go_enter Tryd.func47, Tryd.ntmps47
  go_wp2_with fail
  refine (Normal_any A c ps w ha hlen).mono ?_
  rintro e w2 ⟨A2, c2, rfl, hf2, hown2⟩
  have hnl := normal_len ps
  by_cases he : (normal ps).2 = 0
  · have heb : ((normal ps).2 != 0) = false := by simp [he]
    have hpr := Lib.hid (show preemptions ps = (preempts (normal ps).1, 0) by unfold preemptions; rw [if_pos he])
    have hr := (Rp.of_own hown2).2
    have HE := Lib.hid he
    clear he hown2
    generalize (normal ps).1 = ns at *
    generalize (normal ps).2 = er at *
    go_wp2
    go_loopw [5, 17] (fun v i wr => ∃ k : Nat, k ≤ ns.length ∧ i = .int .i64 k ∧ Gath w2 3 ((preUpto ns k).map (.int .i64)) v wr) (fun _ i _ => ns.length - (intOf i).toNat)
    case atStart => exact ⟨0, Nat.zero_le _, rfl, Gath.start _ _ (by simp [preUpto])⟩
    case round =>
      obtain ⟨k, hk, rfl, A1, c1, rfl, hown, hf⟩ := hrel
      simp only [List.length_map] at hown
      have hpl := pre_le ns k
      by_cases hlt : k < ns.length
      · by_cases hl : 0 ≤ laterOf ns k
        · have hd : decide (0 ≤ laterOf ns k) = true := by simpa using hl
          go_wp2_with (first
            | (at_builtin
               refine wpList_append_rd rfl (.tmp 24) (.tmp 26) _ rfl elemInts (.slice A1 (preUpto ns k).length c1) _ rfl (own_drewN (hown.alloc _) _) _ _ [(k : Int)] (.int .i64) rfl ((Rd.one _ _ _ _).drewN _) one_i64 (by simp; omega) (by simp; have := hf.size; omega) ?_
               intro A4 c4 w4 hown4 hg4 hat4)
            | (go_at_call 92; refine (later_any _ _ ns k _ (hr.fr0 hf) hlt).mono ?_; rintro e w' ⟨rfl, n, rfl⟩))
          go_roundw
          case rel => exact ⟨k + 1, by omega, by go_num, Gath.snoc ((hf.alloc _).drewN n) (own_drewN (hown.alloc _) _) hg4 hown4 (by rw [pre_yes hl]; simp)⟩
          case measure => simp [intOf]; omega
        · have hd : decide (0 ≤ laterOf ns k) = false := by simpa using hl
          go_wp2_with (go_at_call 92; refine (later_any _ _ ns k _ (hr.fr0 hf) hlt).mono ?_; rintro e w' ⟨rfl, n, rfl⟩)
          go_roundw
          case rel => exact ⟨k + 1, by omega, by go_num, Gath.same (hf.drewN n) (own_drewN hown _) (by rw [pre_no (by omega)])⟩
          case measure => simp [intOf]; omega
      · go_wp2
        go_ret2
        exact RetNums.ok (zs := preUpto ns k) (hf2.trans hf) (own_base (by simpa using hown) hf2.size) (by rw [hpr.out, show k = ns.length by omega]; rfl)
  · have heb : ((normal ps).2 != 0) = true := by simpa using he
    have hpr := Lib.hid (show preemptions ps = ([], (normal ps).2) by unfold preemptions; rw [if_neg he])
    clear he
    go_wp2
    go_ret2
    exact RetNums.err hf2 hpr.out
end Go.Proofs.YtjpbmbonccenfaaDoor
