/- Texts of this seat, one behind the other: Pick2, Pick3, Pick4. -/
import Derived.Test.YtippadnbngcjlaaDoorg34
import Derived.Laws.StructEq
/- later, SamePicks. -/
namespace Go.Proofs.YtippadnbngcjlaaDoor
open Go.RowKit
set_option linter.unusedVariables false

/-- The next pick of a thread from place i on: its place; -1: there is none. -/
def laterFrom (t : Int) : Int → List Pk → Int
  | _, [] => -1
  | i, p :: ps => if p.1 = t then i else laterFrom t (i + 1) ps
/-- The next later pick of the thread of the pick at a place. -/
def laterOf (ps : List Pk) (at_ : Nat) : Int := laterFrom (ps.getD at_ (0, 0)).1 (at_ + 1) (ps.drop (at_ + 1))
theorem later_hit {t : Int} {ps : List Pk} {k : Nat} {x y : Int} (h : Hid (ps[k]? = some (x, y))) (e : x = t) (i : Int) : laterFrom t i (ps.drop k) = i := by
  have hk : k < ps.length := (List.getElem?_eq_some_iff.1 h.out).1
  have he : ps[k] = (x, y) := (List.getElem?_eq_some_iff.1 h.out).2
  rw [List.drop_eq_getElem_cons hk, he, laterFrom, if_pos e]
theorem later_miss {t : Int} {ps : List Pk} {k : Nat} {x y : Int} (h : Hid (ps[k]? = some (x, y))) (e : ¬ x = t) (i : Int) : laterFrom t i (ps.drop k) = laterFrom t (i + 1) (ps.drop (k + 1)) := by
  have hk : k < ps.length := (List.getElem?_eq_some_iff.1 h.out).1
  have he : ps[k] = (x, y) := (List.getElem?_eq_some_iff.1 h.out).2
  rw [List.drop_eq_getElem_cons hk, he, laterFrom, if_neg e]
theorem later_end {t : Int} {ps : List Pk} {k : Nat} (h : ps.length ≤ k) (i : Int) : laterFrom t i (ps.drop k) = -1 := by
  rw [List.drop_of_length_le h, laterFrom]

theorem takeP_succ_eq {xs ys : List Pk} {k : Nat} {x y x' y' : Int} (h : xs.take k = ys.take k) (hx : Hid (xs[k]? = some (x, y))) (hy : Hid (ys[k]? = some (x', y'))) (e : x = x') (e' : y = y') : xs.take (k + 1) = ys.take (k + 1) := by
  rw [List.take_add_one, List.take_add_one, h, hx.out, hy.out, e, e']
theorem neP_of_at {xs ys : List Pk} {k : Nat} {x y x' y' : Int} (hx : Hid (xs[k]? = some (x, y))) (hy : Hid (ys[k]? = some (x', y'))) (e : ¬ (x = x' ∧ y = y')) : xs ≠ ys := by
  rintro rfl
  exact e (by have := hx.out.symm.trans hy.out; simpa using this)

end Go.Proofs.YtippadnbngcjlaaDoor

/- joined, Normal. -/
namespace Go.Proofs.YtippadnbngcjlaaDoor
open Go.RowKit
set_option linter.unusedVariables false

def joinStep (out : List Pk) (p : Pk) : List Pk :=
  match out.getLast? with
  | some q => if q.1 = p.1 then out.set (out.length - 1) (q.1, q.2 + p.2) else out ++ [p]
  | none => [p]
/-- Picks in which neighbours of one thread are one. -/
def joinedOf (ps : List Pk) : List Pk := ps.foldl joinStep []
def tot (ps : List Pk) : Int := (ps.map (·.2)).sum
/-- Counts from 0 on, their sum not too great. -/
def Fine (ps : List Pk) : Prop := (∀ p ∈ ps, 0 ≤ p.2) ∧ tot ps ≤ 1000000000000

theorem joined_take {ps : List Pk} {k : Nat} {x y : Int} (h : Hid (ps[k]? = some (x, y))) : joinedOf (ps.take (k + 1)) = joinStep (joinedOf (ps.take k)) (x, y) := by
  rw [List.take_add_one, h.out]; simp [joinedOf]
theorem tot_append (a b : List Pk) : tot (a ++ b) = tot a + tot b := by simp [tot]
theorem tot_nonneg {ps : List Pk} (h : ∀ p ∈ ps, 0 ≤ p.2) : 0 ≤ tot ps := by
  induction ps with
  | nil => simp [tot]
  | cons p ps ih =>
    have h1 := h p (by simp)
    have h2 := ih fun q hq => h q (by simp [hq])
    simp only [tot, List.map_cons, List.sum_cons] at h2 ⊢
    omega
theorem tot_take_le {ps : List Pk} (h : ∀ p ∈ ps, 0 ≤ p.2) (k : Nat) : tot (ps.take k) ≤ tot ps := by
  have := tot_append (ps.take k) (ps.drop k)
  rw [List.take_append_drop] at this
  have h2 := tot_nonneg (ps := ps.drop k) fun p hp => h p (List.mem_of_mem_drop hp)
  omega
theorem tot_mem_le {ps : List Pk} (h : ∀ p ∈ ps, 0 ≤ p.2) {q : Pk} (hq : q ∈ ps) : q.2 ≤ tot ps := by
  induction ps with
  | nil => cases hq
  | cons p ps ih =>
    have h1 := h p (by simp)
    have h2 := tot_nonneg (ps := ps) fun q hq => h q (by simp [hq])
    rcases List.mem_cons.1 hq with rfl | hq
    · simp only [tot, List.map_cons, List.sum_cons] at h2 ⊢; omega
    · have := ih (fun q hq => h q (by simp [hq])) hq
      simp only [tot, List.map_cons, List.sum_cons] at this ⊢; omega
theorem joinStep_tot (out : List Pk) (p : Pk) : tot (joinStep out p) = tot out + p.2 := by
  unfold joinStep
  rcases out.eq_nil_or_concat with rfl | ⟨l, q, rfl⟩
  · simp [tot]
  · simp only [List.concat_eq_append, List.getLast?_append, List.getLast?_singleton, Option.some_or]
    split
    · have : (l ++ [q]).set ((l ++ [q]).length - 1) (q.1, q.2 + p.2) = l ++ [(q.1, q.2 + p.2)] := by
        simp
      rw [this]; simp [tot]; omega
    · simp [tot]; omega
theorem joinStep_nonneg {out : List Pk} {p : Pk} (h : ∀ q ∈ out, 0 ≤ q.2) (hp : 0 ≤ p.2) : ∀ q ∈ joinStep out p, 0 ≤ q.2 := by
  unfold joinStep
  rcases out.eq_nil_or_concat with rfl | ⟨l, q, rfl⟩
  · simpa using hp
  · simp only [List.concat_eq_append, List.getLast?_append, List.getLast?_singleton, Option.some_or]
    have hq := h q (by simp)
    split
    · have : (l ++ [q]).set ((l ++ [q]).length - 1) (q.1, q.2 + p.2) = l ++ [(q.1, q.2 + p.2)] := by
        simp
      rw [this]
      intro r hr
      rcases List.mem_append.1 hr with hr | hr
      · exact h r (by simp [hr])
      · simp at hr; subst hr; simp; omega
    · intro r hr
      rcases List.mem_append.1 hr with hr | hr
      · exact h r (by simpa using hr)
      · simp at hr; subst hr; exact hp
theorem joinStep_len (out : List Pk) (p : Pk) : (joinStep out p).length ≤ out.length + 1 := by
  unfold joinStep
  split
  · split <;> simp
  · simp
theorem joined_facts (ps : List Pk) (h : ∀ p ∈ ps, 0 ≤ p.2) : (∀ q ∈ joinedOf ps, 0 ≤ q.2) ∧ tot (joinedOf ps) = tot ps ∧ (joinedOf ps).length ≤ ps.length := by
  have key : ∀ (ps out : List Pk), (∀ p ∈ ps, 0 ≤ p.2) → (∀ q ∈ out, 0 ≤ q.2) → (∀ q ∈ ps.foldl joinStep out, 0 ≤ q.2) ∧ tot (ps.foldl joinStep out) = tot out + tot ps ∧ (ps.foldl joinStep out).length ≤ out.length + ps.length := by
    intro ps
    induction ps with
    | nil => intro out _ ho; exact ⟨ho, by simp [tot], by simp⟩
    | cons p ps ih =>
      intro out hp ho
      have := ih (joinStep out p) (fun q hq => hp q (by simp [hq])) (joinStep_nonneg ho (hp p (by simp)))
      refine ⟨this.1, ?_, ?_⟩
      · rw [List.foldl_cons, this.2.1, joinStep_tot]; simp [tot]; omega
      · have h3 := joinStep_len out p
        have h4 := this.2.2
        simp only [List.foldl_cons, List.length_cons] at h4 ⊢
        omega
  have := key ps [] h (by simp)
  have h0 : tot ([] : List Pk) = 0 := rfl
  exact ⟨this.1, by have := this.2.1; rw [h0, Int.zero_add] at this; exact this, by have := this.2.2; rw [List.length_nil, Nat.zero_add] at this; exact this⟩

theorem join_same {out : List Pk} {p q : Pk} (h : out[out.length - 1]? = some q) (e : q.1 = p.1) : joinStep out p = out.set (out.length - 1) (q.1, q.2 + p.2) := by
  unfold joinStep
  rw [List.getLast?_eq_getElem?, h]
  simp [e]
theorem join_new {out : List Pk} {p q : Pk} (h : out[out.length - 1]? = some q) (e : ¬ q.1 = p.1) : joinStep out p = out ++ [p] := by
  unfold joinStep
  rw [List.getLast?_eq_getElem?, h]
  simp [e]
theorem join_first {out : List Pk} (p : Pk) (h : out.length = 0) : joinStep out p = [p] := by
  obtain rfl := List.eq_nil_of_length_eq_zero h
  rfl

end Go.Proofs.YtippadnbngcjlaaDoor

/- Normal, Preemptions. -/
namespace Go.Proofs.YtippadnbngcjlaaDoor
open Go.RowKit
set_option linter.unusedVariables false

/-- The first error of a schedule, so many steps having been counted. -/
def checkP : Int → List Pk → Int
  | _, [] => 0
  | s, p :: ps => if p.1 < 0 ∨ 8 ≤ p.1 ∨ p.2 < 1 then 1 else if 65536 - s < p.2 then 3 else checkP (s + p.2) ps
/-- Normal. -/
def normal (ps : List Pk) : List Pk × Int := if checkP 0 ps = 0 then (joinedOf ps, 0) else ([], checkP 0 ps)

theorem check_at {ps : List Pk} {k : Nat} {x y : Int} (h : Hid (ps[k]? = some (x, y))) (s : Int) : checkP s (ps.drop k) = if x < 0 ∨ 8 ≤ x ∨ y < 1 then 1 else if 65536 - s < y then 3 else checkP (s + y) (ps.drop (k + 1)) := by
  have hk : k < ps.length := (List.getElem?_eq_some_iff.1 h.out).1
  have he : ps[k] = (x, y) := (List.getElem?_eq_some_iff.1 h.out).2
  rw [List.drop_eq_getElem_cons hk, he, checkP]
theorem check_fine : ∀ (ps : List Pk) (s : Int), checkP s ps = 0 → s ≤ 65536 → (∀ p ∈ ps, 0 ≤ p.1 ∧ p.1 < 8 ∧ 1 ≤ p.2) ∧ s + tot ps ≤ 65536
  | [], s, _, hs => ⟨by simp, by simpa [tot] using hs⟩
  | p :: ps, s, h, hs => by
    rw [checkP] at h
    split at h
    · cases h
    · split at h
      · cases h
      · rename_i h1 h2
        have := check_fine ps (s + p.2) h (by omega)
        refine ⟨fun q hq => ?_, ?_⟩
        · rcases List.mem_cons.1 hq with rfl | hq
          · omega
          · exact this.1 q hq
        · have h3 := this.2
          simp only [tot, List.map_cons, List.sum_cons] at h3 ⊢
          omega
theorem fine_of_check {ps : List Pk} (h : checkP 0 ps = 0) : Fine ps := by
  have := check_fine ps 0 h (by omega)
  exact ⟨fun p hp => by have := this.1 p hp; omega, by omega⟩

/-- The preemptions of a normal form. -/
def preemptAt (ps : List Pk) (k : Nat) : Bool := decide (0 ≤ laterOf ps k)
def preempts (ps : List Pk) : List Int := ((List.range ps.length).filter (preemptAt ps)).map fun (k : Nat) => (k : Int)
def preUpto (ps : List Pk) (k : Nat) : List Int := ((List.range k).filter (preemptAt ps)).map fun (k : Nat) => (k : Int)
theorem pre_yes {ps : List Pk} {k : Nat} (h : 0 ≤ laterOf ps k) : preUpto ps (k + 1) = preUpto ps k ++ [(k : Int)] := by
  simp [preUpto, List.range_succ, List.filter_append, preemptAt, h]
theorem pre_no {ps : List Pk} {k : Nat} (h : ¬ 0 ≤ laterOf ps k) : preUpto ps (k + 1) = preUpto ps k := by
  simp [preUpto, List.range_succ, List.filter_append, preemptAt, h]
theorem pre_le (ps : List Pk) (k : Nat) : (preUpto ps k).length ≤ k := by
  unfold preUpto
  rw [List.length_map]
  exact Nat.le_trans (List.length_filter_le _ _) (by simp)
/-- Preemptions. -/
def preemptions (ps : List Pk) : List Int × Int := if (normal ps).2 = 0 then (preempts (normal ps).1, 0) else ([], (normal ps).2)

/-- The call returns numbers of its own and an error. -/
def RetNums (w : World) (r : List Int × Int) (e : Ending) (w' : World) : Prop :=
  ∃ A c, e = .returned (.tuple #[.slice A r.1.length c, .int .i64 r.2]) ∧ Fr [] w w' ∧ w'.ownsRow w.heap.size 3 1 (.slice A r.1.length c) r.1.length (r.1.map (.int .i64))
theorem RetNums.err {w w1 : World} {r : List Int × Int} {er : Int} (hf : Fr [] w w1) (h : r = ([], er)) : RetNums w r (.returned (.tuple #[.slice none 0 0, .int .i64 er])) w1 := by
  subst h
  exact ⟨none, 0, rfl, hf, by simpa using World.ownsRow_nil w1 w.heap.size 3 1⟩
theorem RetNums.ok {w w1 : World} {r : List Int × Int} {er : Int} {n c : Nat} {A : Option Addr} {zs : List Int} (hf : Fr [] w w1) (ho : w1.ownsRow w.heap.size 3 1 (.slice A n c) n (zs.map (.int .i64))) (h : r = (zs, er)) : RetNums w r (.returned (.tuple #[.slice A n c, .int .i64 er])) w1 := by
  subst h
  obtain ⟨hn, _⟩ := Rd.of_own ho
  subst hn
  exact ⟨A, c, rfl, hf, ho⟩

theorem normal_len (ps : List Pk) : (normal ps).1.length ≤ ps.length := by
  unfold normal
  split
  · rename_i h
    exact (joined_facts ps (fine_of_check h).1).2.2
  · simp

end Go.Proofs.YtippadnbngcjlaaDoor
