/- Normal forms and joined schedules: the plain law. -/
import Derived.Test.YtjpbmbonccenfaaPick4
namespace Go.Proofs.Ytjpbmbonccenfaa
open Go.RowKit
set_option linter.unusedVariables false

/-- The normal form, from behind. -/
def rl : List Pk → List Pk
  | [] => []
  | p :: ps => match rl ps with
    | [] => [p]
    | q :: qs => if q.1 = p.1 then (p.1, p.2 + q.2) :: qs else p :: q :: qs
theorem rl_cons (p : Pk) (ps : List Pk) : ∃ c r, rl (p :: ps) = (p.1, c) :: r := by
  rw [rl]
  split
  · exact ⟨p.2, [], rfl⟩
  · split
    · exact ⟨_, _, rfl⟩
    · exact ⟨p.2, _, rfl⟩
theorem rl_merge {p q : Pk} (h : q.1 = p.1) (ps : List Pk) : rl (q :: p :: ps) = rl ((q.1, q.2 + p.2) :: ps) := by
  rw [rl, rl, rl]
  rcases rl ps with _ | ⟨r, rs⟩
  · simp [h]
  · by_cases hr : r.1 = p.1
    · simp [hr, h]; omega
    · simp [hr, h]
theorem rl_apart {p q : Pk} (h : ¬ q.1 = p.1) (ps : List Pk) : rl (q :: p :: ps) = q :: rl (p :: ps) := by
  obtain ⟨c, r, e⟩ := rl_cons p ps
  rw [rl, e]
  simp
  exact fun h' => absurd h'.symm h
theorem fold_rl : ∀ (ps out : List Pk) (q : Pk), ps.foldl joinStep (out ++ [q]) = out ++ rl (q :: ps)
  | [], out, q => by simp [rl]
  | p :: ps, out, q => by
    rw [List.foldl_cons]
    by_cases h : q.1 = p.1
    · have : joinStep (out ++ [q]) p = out ++ [(q.1, q.2 + p.2)] := by simp [joinStep, h]
      rw [this, fold_rl, rl_merge h]
    · have : joinStep (out ++ [q]) p = (out ++ [q]) ++ [p] := by simp [joinStep, h]
      rw [this, fold_rl, rl_apart h]; simp
theorem joined_rl (ps : List Pk) : joinedOf ps = rl ps := by
  cases ps with
  | nil => rfl
  | cons p ps => exact fold_rl ps [] p

/-- No two neighbours have one thread. -/
def Apart : List Pk → Prop
  | p :: q :: ps => p.1 ≠ q.1 ∧ Apart (q :: ps)
  | _ => True
theorem rl_apart_ : ∀ ps : List Pk, Apart (rl ps)
  | [] => trivial
  | p :: ps => by
    have ih := rl_apart_ ps
    rw [rl]
    rcases h : rl ps with _ | ⟨q, qs⟩
    · trivial
    · rw [h] at ih
      show Apart (if q.1 = p.1 then (p.1, p.2 + q.2) :: qs else p :: q :: qs)
      split
      · rename_i e
        cases qs with
        | nil => trivial
        | cons r rs => exact ⟨by rw [← e]; exact ih.1, ih.2⟩
      · rename_i e
        exact ⟨fun h' => e h'.symm, ih⟩
theorem rl_self : ∀ {ps : List Pk}, Apart ps → rl ps = ps
  | [], _ => rfl
  | [p], _ => rfl
  | p :: q :: ps, h => by rw [rl_apart h.1, rl_self h.2]
theorem Apart.at_ : ∀ {ps : List Pk} (h : Apart ps) {i : Nat} {p q : Pk}, ps[i]? = some p → ps[i + 1]? = some q → p.1 ≠ q.1
  | a :: b :: ps, h, 0, p, q, h1, h2 => by simp at h1 h2; subst h1 h2; exact h.1
  | a :: b :: ps, h, i + 1, p, q, h1, h2 => h.2.at_ (i := i) (by simpa using h1) (by simpa using h2)
  | [a], h, i, p, q, h1, h2 => by simp at h2
  | [], h, i, p, q, h1, h2 => by simp at h1

/-- Picks that are valid, one by one. -/
def Val (ps : List Pk) : Prop := ∀ p ∈ ps, 0 ≤ p.1 ∧ p.1 < 8 ∧ 1 ≤ p.2
theorem rl_val : ∀ {ps : List Pk}, Val ps → Val (rl ps)
  | [], h => h
  | p :: ps, h => by
    have hp := h p (by simp)
    have ih := rl_val (ps := ps) fun q hq => h q (by simp [hq])
    rw [rl]
    rcases hr : rl ps with _ | ⟨q, qs⟩
    · intro r hm; simp at hm; subst hm; exact hp
    · rw [hr] at ih
      have hq := ih q (by simp)
      show Val (if q.1 = p.1 then (p.1, p.2 + q.2) :: qs else p :: q :: qs)
      split
      · intro r hm
        rcases List.mem_cons.1 hm with rfl | hm
        · exact ⟨hp.1, hp.2.1, by simp; omega⟩
        · exact ih r (by simp [hm])
      · intro r hm
        rcases List.mem_cons.1 hm with rfl | hm
        · exact hp
        · exact ih r hm
theorem rl_tot : ∀ ps : List Pk, tot (rl ps) = tot ps
  | [] => rfl
  | p :: ps => by
    have ih := rl_tot ps
    rw [rl]
    rcases hr : rl ps with _ | ⟨q, qs⟩
    · rw [hr] at ih; simp [tot] at ih ⊢; omega
    · rw [hr] at ih
      show tot (if q.1 = p.1 then (p.1, p.2 + q.2) :: qs else p :: q :: qs) = _
      simp only [tot, List.map_cons, List.sum_cons] at ih ⊢
      split <;> simp <;> omega
/-- How many steps a thread takes. -/
def stepsOf (t : Int) (ps : List Pk) : Int := (ps.map fun p => if p.1 = t then p.2 else 0).sum
theorem stepsOf_cons (t : Int) (p : Pk) (ps : List Pk) : stepsOf t (p :: ps) = (if p.1 = t then p.2 else 0) + stepsOf t ps := by simp [stepsOf]
theorem stepsOf_append (t : Int) (a b : List Pk) : stepsOf t (a ++ b) = stepsOf t a + stepsOf t b := by simp [stepsOf]
theorem rl_steps (t : Int) : ∀ ps : List Pk, stepsOf t (rl ps) = stepsOf t ps
  | [] => rfl
  | p :: ps => by
    have ih := rl_steps t ps
    rw [rl]
    rcases hr : rl ps with _ | ⟨q, qs⟩
    · rw [hr] at ih; rw [stepsOf_cons, stepsOf_cons, ih]
    · rw [hr] at ih
      show stepsOf t (if q.1 = p.1 then (p.1, p.2 + q.2) :: qs else p :: q :: qs) = _
      rw [stepsOf_cons, ← ih, stepsOf_cons]
      by_cases e : q.1 = p.1
      · rw [if_pos e, stepsOf_cons]
        simp only [e]
        split <;> omega
      · rw [if_neg e, stepsOf_cons, stepsOf_cons]
theorem rl_len : ∀ ps : List Pk, (rl ps).length ≤ ps.length
  | [] => by simp [rl]
  | p :: ps => by
    have ih := rl_len ps
    rw [rl]
    rcases hr : rl ps with _ | ⟨q, qs⟩
    · simp
    · rw [hr] at ih
      show (if q.1 = p.1 then (p.1, p.2 + q.2) :: qs else p :: q :: qs).length ≤ _
      split <;> simp at ih ⊢ <;> omega
theorem rl_len_cons (p : Pk) (ps : List Pk) : (rl (p :: ps)).length ≤ (rl ps).length + 1 := by
  rw [rl]
  rcases hr : rl ps with _ | ⟨q, qs⟩
  · simp
  · show (if q.1 = p.1 then (p.1, p.2 + q.2) :: qs else p :: q :: qs).length ≤ _
    split <;> simp
theorem rl_less : ∀ (x : List Pk) {p q : Pk} (y : List Pk), p.1 = q.1 → (rl (x ++ p :: q :: y)).length < (x ++ p :: q :: y).length
  | [], p, q, y, h => by
    rw [List.nil_append, rl_merge h]
    have := rl_len ((p.1, p.2 + q.2) :: y)
    simp at this ⊢; omega
  | a :: x, p, q, y, h => by
    have ih := rl_less x y h
    have := rl_len_cons a (x ++ p :: q :: y)
    simp at ih this ⊢; omega

theorem checkP_ok : ∀ (ps : List Pk) (s : Int), Val ps → s + tot ps ≤ 65536 → 0 ≤ s → checkP s ps = 0
  | [], _, _, _, _ => rfl
  | p :: ps, s, h, ht, hs => by
    have hp := h p (by simp)
    have h2 : Val ps := fun q hq => h q (by simp [hq])
    have h3 : ∀ l : List Pk, Val l → 0 ≤ tot l := by
      intro l
      induction l with
      | nil => intro _; simp [tot]
      | cons q l ih =>
        intro hl
        have h1 := ih fun r hr => hl r (by simp [hr])
        have h2 := hl q (by simp)
        simp only [tot, List.map_cons, List.sum_cons] at h1 ⊢; omega
    have h4 := h3 ps h2
    have ht' : s + p.2 + tot ps ≤ 65536 := by simp only [tot, List.map_cons, List.sum_cons] at ht ⊢; omega
    rw [checkP, if_neg (by omega), if_neg (by omega)]
    exact checkP_ok ps _ h2 ht' (by omega)

/-- The loop over one group: what is left of it, and what lies behind it. -/
structure Grp (t c : Int) (l : List Pk) (r : List Pk) (left : Int) : Prop where
  run : rl ((t, c - left) :: l) = (t, c) :: r
theorem grp_start {l : List Pk} {t c : Int} {r : List Pk} (hv : rl l = (t, c) :: r) : Grp t c l r c := by
  refine ⟨?_⟩
  rw [rl, hv]; simp
theorem rl_head_ge : ∀ {l : List Pk} {t x c : Int} {r : List Pk}, Val l → rl ((t, x) :: l) = (t, c) :: r → (c = x ∧ rl l = r ∧ ∀ p, l.head? = some p → p.1 ≠ t) ∨ (x < c ∧ ∃ y l', l = (t, y) :: l')
  | [], t, x, c, r, _, h => by simp [rl] at h; exact .inl ⟨h.1.symm, h.2.symm ▸ rfl, by simp⟩
  | p :: l, t, x, c, r, hv, h => by
    by_cases e : t = p.1
    · right
      have hv2 := rl_val hv
      obtain ⟨c', r', h'⟩ := rl_cons p l
      rw [rl, h'] at h
      rw [h'] at hv2
      have := hv2 (p.1, c') (by simp)
      simp [e] at h
      refine ⟨by simp at this; omega, p.2, l, by rw [e]⟩
    · left
      rw [rl_apart (q := (t, x)) e] at h
      injection h with h1 h2
      injection h1 with h3 h4
      exact ⟨h4.symm, h2, fun q hq => by simp at hq; subst hq; exact fun h => e h.symm⟩
theorem grp_more {l : List Pk} {t c left : Int} {r : List Pk} (hv : Val l) (h : Grp t c l r left) (hl : 0 < left) : ∃ y l', l = (t, y) :: l' ∧ 0 ≤ left - y ∧ Grp t c l' r (left - y) := by
  rcases rl_head_ge hv h.run with ⟨h1, _, _⟩ | ⟨h1, y, l', rfl⟩
  · omega
  · have hg : Grp t c l' r (left - y) := ⟨by have := h.run; rw [rl_merge (q := (t, c - left)) (p := (t, y)) rfl] at this; simpa [show c - left + y = c - (left - y) by omega] using this⟩
    refine ⟨y, l', rfl, ?_, hg⟩
    rcases rl_head_ge (fun p hp => hv p (by simp [hp])) hg.run with ⟨h2, _, _⟩ | ⟨h2, _⟩ <;> omega
theorem grp_end {l : List Pk} {t c : Int} {r : List Pk} (hv : Val l) (h : Grp t c l r 0) : rl l = r := by
  rcases rl_head_ge hv h.run with ⟨_, h1, _⟩ | ⟨h1, _⟩
  · exact h1
  · omega

/-- A schedule in which the pick at a place is followed by another one of its thread: so many rounds. -/
def mvUpto (l : List Pk) (at_ next : Nat) : Nat → List Pk
  | 0 => []
  | k + 1 => if k = next then mvUpto l at_ next k else if k = at_ then mvUpto l at_ next k ++ [l.getD k (0, 0), l.getD next (0, 0)] else mvUpto l at_ next k ++ [l.getD k (0, 0)]
def mvOf (l : List Pk) (at_ next : Nat) : List Pk := mvUpto l at_ next l.length
theorem mv_len {l : List Pk} {at_ next : Nat} (h : at_ < next) : ∀ k, (mvUpto l at_ next k).length + (if next < k then 1 else 0) = k + (if at_ < k then 1 else 0)
  | 0 => by simp [mvUpto]
  | k + 1 => by
    have ih := mv_len (l := l) h k
    rw [mvUpto]
    (repeat' split) <;> simp <;> (repeat' split at ih) <;> omega
theorem mv_steps {l : List Pk} {at_ next : Nat} (h : at_ < next) (t : Int) : ∀ k, k ≤ l.length → stepsOf t (mvUpto l at_ next k) + (if next < k then (if (l.getD next (0, 0)).1 = t then (l.getD next (0, 0)).2 else 0) else 0) = stepsOf t (l.take k) + (if at_ < k then (if (l.getD next (0, 0)).1 = t then (l.getD next (0, 0)).2 else 0) else 0)
  | 0, _ => by simp [mvUpto]
  | k + 1, hk => by
    have ih := mv_steps (l := l) h t k (by omega)
    have ht : l.take (k + 1) = l.take k ++ [l.getD k (0, 0)] := by
      rw [List.take_add_one, List.getD_eq_getElem?_getD, List.getElem?_eq_getElem (by omega)]; simp
    rw [mvUpto, ht, stepsOf_append]
    generalize hd : (if (l.getD next (0, 0)).1 = t then (l.getD next (0, 0)).2 else 0) = d at *
    have e1 : stepsOf t [l.getD k (0, 0)] = if (l.getD k (0, 0)).1 = t then (l.getD k (0, 0)).2 else 0 := by simp [stepsOf]
    have e2 : stepsOf t [l.getD k (0, 0), l.getD next (0, 0)] = stepsOf t [l.getD k (0, 0)] + d := by rw [← hd]; simp [stepsOf]
    by_cases a : k = next
    · subst a
      rw [if_pos rfl, e1, hd]
      rw [if_neg (by omega), if_pos (by omega)] at ih
      rw [if_pos (by omega), if_pos (by omega)]
      omega
    · rw [if_neg a]
      by_cases b : k = at_
      · subst b
        rw [if_pos rfl, stepsOf_append, e2]
        rw [if_neg (by omega), if_neg (by omega)] at ih
        rw [if_neg (by omega), if_pos (by omega)]
        omega
      · rw [if_neg b, stepsOf_append]
        have c1 : (if next < k + 1 then d else 0) = (if next < k then d else 0) := by (repeat' split) <;> omega
        have c2 : (if at_ < k + 1 then d else 0) = (if at_ < k then d else 0) := by (repeat' split) <;> omega
        rw [c1, c2]; omega
theorem mv_has {l : List Pk} {at_ next : Nat} (h : at_ < next) : ∀ k, at_ < k → ∃ x y, mvUpto l at_ next k = x ++ l.getD at_ (0, 0) :: l.getD next (0, 0) :: y
  | 0, h0 => by omega
  | k + 1, h0 => by
    rw [mvUpto]
    by_cases b : k = at_
    · subst b
      rw [if_neg (by omega), if_pos rfl]
      exact ⟨_, [], rfl⟩
    · obtain ⟨x, y, e⟩ := mv_has (l := l) h k (by omega)
      rw [e]
      split
      · exact ⟨x, y, rfl⟩
      · exact ⟨x, y ++ [l.getD k (0, 0)], by simp⟩
theorem mv_val {l : List Pk} (hv : Val l) {at_ next : Nat} (hn : next < l.length) : ∀ k, k ≤ l.length → Val (mvUpto l at_ next k)
  | 0, _ => by intro p hp; cases hp
  | k + 1, hk => by
    have ih := mv_val hv (at_ := at_) hn k (by omega)
    have g : ∀ i, i < l.length → l.getD i (0, 0) ∈ l := fun i hi => by rw [List.getD_eq_getElem?_getD, List.getElem?_eq_getElem hi]; simp
    rw [mvUpto]
    split
    · exact ih
    · split <;> (intro p hp; rcases List.mem_append.1 hp with hp | hp)
      · exact ih p hp
      · simp only [List.mem_cons, List.not_mem_nil, or_false] at hp
        rcases hp with rfl | rfl
        · exact hv _ (g k (by omega))
        · exact hv _ (g next hn)
      · exact ih p hp
      · simp only [List.mem_cons, List.not_mem_nil, or_false] at hp
        subst hp
        exact hv _ (g k (by omega))
theorem mv_tot {l : List Pk} {at_ next : Nat} (h : at_ < next) (hn : next < l.length) : tot (mvOf l at_ next) = tot l := by
  have key : ∀ k, k ≤ l.length → tot (mvUpto l at_ next k) + (if next < k then (l.getD next (0, 0)).2 else 0) = tot (l.take k) + (if at_ < k then (l.getD next (0, 0)).2 else 0) := by
    intro k
    induction k with
    | zero => intro _; simp [mvUpto]
    | succ k ih =>
      intro hk
      have ih := ih (by omega)
      have ht : l.take (k + 1) = l.take k ++ [l.getD k (0, 0)] := by
        rw [List.take_add_one, List.getD_eq_getElem?_getD, List.getElem?_eq_getElem (by omega)]; simp
      have ta : ∀ a b : List Pk, tot (a ++ b) = tot a + tot b := fun a b => by simp [tot]
      rw [mvUpto, ht, ta]
      have e1 : tot [l.getD k (0, 0)] = (l.getD k (0, 0)).2 := by simp [tot]
      have e2 : tot [l.getD k (0, 0), l.getD next (0, 0)] = (l.getD k (0, 0)).2 + (l.getD next (0, 0)).2 := by simp [tot]
      by_cases a : k = next
      · subst a
        rw [if_neg (by omega), if_pos (by omega)] at ih
        rw [if_pos rfl, if_pos (by omega), if_pos (by omega), e1]
        omega
      · rw [if_neg a]
        by_cases b : k = at_
        · subst b
          rw [if_neg (by omega), if_neg (by omega)] at ih
          rw [if_pos rfl, ta, e2, if_neg (by omega), if_pos (by omega), e1]
          omega
        · rw [if_neg b, ta]
          (repeat' split) <;> (repeat' split at ih) <;> omega
  have := key l.length (Nat.le_refl _)
  rw [if_pos hn, if_pos (by omega), List.take_length] at this
  unfold mvOf; omega
end Go.Proofs.Ytjpbmbonccenfaa
