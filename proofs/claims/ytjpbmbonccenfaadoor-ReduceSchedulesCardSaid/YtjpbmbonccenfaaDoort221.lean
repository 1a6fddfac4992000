/- Texts of this seat, one behind the other: Tr, Sch. -/
import Derived.Test.YtjpbmbonccenfaaDoort215
import Derived.Test.YtjpbmbonccenfaaDoort220
import Derived.Test.YtjpbmbonccenfaaDoort217
/- Searches as trees of questions: what they ask, how they end, when an oracle answers. -/
namespace Go.Proofs.YtjpbmbonccenfaaDoor
open Go.RowKit
set_option linter.unusedVariables false

/-- A search: an end, or a question and how it goes on with the answer. -/
inductive Tr (Q A α : Type) where
  | ret (a : α) : Tr Q A α
  | ask (q : Q) (k : A → Tr Q A α) : Tr Q A α
namespace Tr
section
variable {Q A α S : Type}
/-- The search goes through what answers it: a question that is not answered, or the end. -/
def go (step : S → Q → Option (A × S)) : Tr Q A α → S → Q ⊕ (α × S)
  | .ret a, s => .inr (a, s)
  | .ask q k, s => match step s q with
    | none => .inl q
    | some (v, s') => (k v).go step s'
/-- The search with all its questions answered. -/
def res (o : Q → A) : Tr Q A α → α
  | .ret a => a
  | .ask q k => (k (o q)).res o
/-- What it asks that is not known yet. -/
def asks [DecidableEq Q] (o : Q → A) : Tr Q A α → List Q → List Q
  | .ret _, _ => []
  | .ask q k, ks => if q ∈ ks then (k (o q)).asks o ks else q :: (k (o q)).asks o (ks ++ [q])
/-- All its questions, whatever is answered. -/
def All (P : Q → Prop) : Tr Q A α → Prop
  | .ret _ => True
  | .ask q k => P q ∧ ∀ a, (k a).All P
/-- All its ends, whatever is answered. -/
def Ends (P : α → Prop) : Tr Q A α → Prop
  | .ret a => P a
  | .ask _ k => ∀ a, (k a).Ends P
theorem go_ret (step : S → Q → Option (A × S)) (a : α) (s : S) : (Tr.ret a).go step s = .inr (a, s) := rfl
theorem go_none {step : S → Q → Option (A × S)} {q : Q} {k : A → Tr Q A α} {s : S} (h : step s q = none) : (Tr.ask q k).go step s = .inl q := by simp [go, h]
theorem go_some {step : S → Q → Option (A × S)} {q : Q} {k : A → Tr Q A α} {s s' : S} {v : A} (h : step s q = some (v, s')) : (Tr.ask q k).go step s = (k v).go step s' := by simp [go, h]
theorem asks_new [DecidableEq Q] (o : Q → A) : ∀ (t : Tr Q A α) (ks : List Q), ∀ q ∈ t.asks o ks, q ∉ ks
  | .ret _, ks, q, h => by simp [asks] at h
  | .ask q0 k, ks, q, h => by
    rw [asks] at h
    by_cases h0 : q0 ∈ ks
    · rw [if_pos h0] at h; exact asks_new o _ ks q h
    · rw [if_neg h0] at h
      rcases List.mem_cons.1 h with rfl | h
      · exact h0
      · exact fun hq => asks_new o _ (ks ++ [q0]) q h (by simp [hq])
theorem asks_nodup [DecidableEq Q] (o : Q → A) : ∀ (t : Tr Q A α) (ks : List Q), (t.asks o ks).Nodup
  | .ret _, ks => by simp [asks]
  | .ask q0 k, ks => by
    rw [asks]
    by_cases h0 : q0 ∈ ks
    · rw [if_pos h0]; exact asks_nodup o _ ks
    · rw [if_neg h0]
      exact List.nodup_cons.2 ⟨fun h => asks_new o _ _ q0 h (by simp), asks_nodup o _ _⟩
theorem asks_all [DecidableEq Q] (o : Q → A) {P : Q → Prop} : ∀ (t : Tr Q A α) (ks : List Q), t.All P → ∀ q ∈ t.asks o ks, P q
  | .ret _, ks, _, q, h => by simp [asks] at h
  | .ask q0 k, ks, hp, q, h => by
    rw [asks] at h
    by_cases h0 : q0 ∈ ks
    · rw [if_pos h0] at h; exact asks_all o _ ks (hp.2 _) q h
    · rw [if_neg h0] at h
      rcases List.mem_cons.1 h with rfl | h
      · exact hp.1
      · exact asks_all o _ _ (hp.2 _) q h
theorem ends_res (o : Q → A) {P : α → Prop} : ∀ (t : Tr Q A α), t.Ends P → P (t.res o)
  | .ret _, h => h
  | .ask q k, h => ends_res o (k (o q)) (h _)
theorem ends_go {P : α → Prop} {step : S → Q → Option (A × S)} {a : α} {s' : S} : ∀ (t : Tr Q A α) (s : S), t.Ends P → t.go step s = .inr (a, s') → P a
  | .ret b, s, h, hg => by
    simp only [go, Sum.inr.injEq, Prod.mk.injEq] at hg
    exact hg.1 ▸ h
  | .ask q k, s, h, hg => by
    unfold go at hg
    rcases hs : step s q with _ | ⟨v, s1⟩
    · simp [hs] at hg
    · simp only [hs] at hg
      exact ends_go (k v) s1 (h v) hg
theorem all_go {P : Q → Prop} {step : S → Q → Option (A × S)} {q0 : Q} : ∀ (t : Tr Q A α) (s : S), t.All P → t.go step s = .inl q0 → P q0
  | .ret b, s, h, hg => by simp [go] at hg
  | .ask q k, s, h, hg => by
    unfold go at hg
    rcases hs : step s q with _ | ⟨v, s1⟩
    · simp only [hs, Sum.inl.injEq] at hg
      exact hg ▸ h.1
    · simp only [hs] at hg
      exact all_go (k v) s1 (h.2 v) hg
end
end Tr

theorem lookup_said (o : List Int → Int) (q : List Int) : ∀ ks : List (List Int), @List.lookup (List Int) Int instBEqOfDecidableEq q (ks.map fun k => (k, o k)) = if q ∈ ks then some (o q) else none
  | [] => rfl
  | k :: ks => by
    show (match @BEq.beq (List Int) instBEqOfDecidableEq q k with | true => some (o k) | false => @List.lookup (List Int) Int instBEqOfDecidableEq q (ks.map fun k => (k, o k))) = _
    by_cases h : q = k
    · subst h
      have : (@BEq.beq (List Int) instBEqOfDecidableEq q q) = true := decide_eq_true rfl
      rw [this]; simp
    · have : (@BEq.beq (List Int) instBEqOfDecidableEq q k) = false := decide_eq_false h
      rw [this]
      show @List.lookup (List Int) Int instBEqOfDecidableEq q (ks.map fun k => (k, o k)) = _
      rw [lookup_said o q ks]
      simp [h]

/-- One question of a search that goes through its answers. -/
def askS (ans : List Int) (s : Nat × Kn) (q : List Int) : Option (Int × (Nat × Kn)) := (askV ans s.1 s.2 q).map fun r => (r.1, (r.2.1, r.2.2))
theorem askS_none {ans : List Int} {u : Nat} {kn : Kn} {q : List Int} (h : askV ans u kn q = none) : askS ans (u, kn) q = none := by simp [askS, h]
theorem askS_some {ans : List Int} {u u' : Nat} {kn kn' : Kn} {q : List Int} {v : Int} (h : askV ans u kn q = some (v, u', kn')) : askS ans (u, kn) q = some (v, (u', kn')) := by simp [askS, h]

/-- What is known of sets that an oracle was asked. -/
def saidOf (o : List Int → Int) (ks : List (List Int)) : Kn := ks.map fun k => (k, o k)
section
variable {α : Type}
theorem go_stop (o : List Int → Int) (ho : ∀ q, told (o q) = o q) (q0 : List Int) (rest : List (List Int)) :
    ∀ (t : Tr (List Int) Int α) (ks more : List (List Int)), t.asks o ks = more ++ q0 :: rest → t.go (askS ((ks ++ more).map o)) (ks.length, saidOf o ks) = .inl q0
  | .ret _, ks, more, h => by simp [Tr.asks] at h
  | .ask q k, ks, more, h => by
    rw [Tr.asks] at h
    by_cases h0 : q ∈ ks
    · rw [if_pos h0] at h
      rw [Tr.go_some (v := o q) (s' := (ks.length, saidOf o ks)) (askS_some (askV_known (by unfold saidOf; rw [lookup_said, if_pos h0])))]
      exact go_stop o ho q0 rest _ ks more h
    · rw [if_neg h0] at h
      have hl : @List.lookup (List Int) Int instBEqOfDecidableEq q (saidOf o ks) = none := by unfold saidOf; rw [lookup_said, if_neg h0]
      rcases more with _ | ⟨m, more⟩
      · simp only [List.nil_append, List.cons.injEq] at h
        rw [← h.1]
        exact Tr.go_none (askS_none (askV_ask hl (by simp)))
      · simp only [List.cons_append, List.cons.injEq] at h
        obtain ⟨rfl, h⟩ := h
        have hg : askV ((ks ++ q :: more).map o) ks.length (saidOf o ks) q = some (told (o q), ks.length + 1, saidOf o ks ++ [(q, told (o q))]) := askV_got hl (by simp)
        rw [Tr.go_some (askS_some hg), ho]
        have := go_stop o ho q0 rest _ (ks ++ [q]) more h
        simpa [saidOf] using this
theorem go_whole (o : List Int → Int) (ho : ∀ q, told (o q) = o q) (extra : List Int) :
    ∀ (t : Tr (List Int) Int α) (ks : List (List Int)), t.go (askS ((ks ++ t.asks o ks).map o ++ extra)) (ks.length, saidOf o ks) = .inr (t.res o, ((ks ++ t.asks o ks).length, saidOf o (ks ++ t.asks o ks)))
  | .ret _, ks => by simp [Tr.asks, Tr.go, Tr.res]
  | .ask q k, ks => by
    rw [Tr.asks, Tr.res]
    by_cases h0 : q ∈ ks
    · rw [if_pos h0, Tr.go_some (v := o q) (s' := (ks.length, saidOf o ks)) (askS_some (askV_known (by unfold saidOf; rw [lookup_said, if_pos h0])))]
      exact go_whole o ho extra _ ks
    · rw [if_neg h0]
      have hl : @List.lookup (List Int) Int instBEqOfDecidableEq q (saidOf o ks) = none := by unfold saidOf; rw [lookup_said, if_neg h0]
      have hg : askV ((ks ++ q :: (k (o q)).asks o (ks ++ [q])).map o ++ extra) ks.length (saidOf o ks) q = some (told (o q), ks.length + 1, saidOf o ks ++ [(q, told (o q))]) := askV_got hl (by simp)
      rw [Tr.go_some (askS_some hg), ho]
      have := go_whole o ho extra (k (o q)) (ks ++ [q])
      simpa [saidOf] using this
end

/-- What a search returns: an error, what is kept, what passes. -/
abbrev Res := Int × List Int × List Int
/-- A search for sets with answers: the next question, the result or the error. -/
def qOf (ans : List Int) (t : Tr (List Int) Int Res) : Qst × Int :=
  if 4096 < ans.length then (qNone, 3)
  else match t.go (askS ans) (0, []) with
    | .inl q => (⟨false, q, [], []⟩, 0)
    | .inr ((er, kept, pass), (u, _)) => endOf false [] er (decide (u < ans.length)) kept pass
theorem qOf_stop {o : List Int → Int} (ho : ∀ q, told (o q) = o q) {t : Tr (List Int) Int Res} {more rest : List (List Int)} {q : List Int} (h : t.asks o [] = more ++ q :: rest) (hl : more.length ≤ 4096) :
    qOf (more.map o) t = (⟨false, q, [], []⟩, 0) := by
  unfold qOf
  rw [if_neg (by simp; omega)]
  have := go_stop o ho q rest t [] more h
  simp only [List.nil_append, List.length_nil, saidOf, List.map_nil] at this
  rw [this]
theorem qOf_whole {o : List Int → Int} (ho : ∀ q, told (o q) = o q) (t : Tr (List Int) Int Res) (extra : List Int) (hl : (t.asks o []).length + extra.length ≤ 4096) :
    qOf ((t.asks o []).map o ++ extra) t = endOf false [] (t.res o).1 (decide (0 < extra.length)) (t.res o).2.1 (t.res o).2.2 := by
  unfold qOf
  rw [if_neg (by simp; omega)]
  have := go_whole o ho extra t []
  simp only [List.nil_append, List.length_nil, saidOf, List.map_nil] at this
  rw [this]
  simp

/-- All sets of numbers below n. -/
def subs : Nat → List (List Int)
  | 0 => [[]]
  | n + 1 => subs n ++ (subs n).map (· ++ [(n : Int)])
theorem subs_length : ∀ n, (subs n).length = 2 ^ n
  | 0 => rfl
  | n + 1 => by simp [subs, subs_length n]; omega
theorem mem_subs : ∀ {n : Nat} {q : List Int}, isSet n q = true → q ∈ subs n
  | 0, q, h => by
    have := (isSet_iff.1 h).1
    rcases q with _ | ⟨x, q⟩
    · simp [subs]
    · have := this x (by simp); omega
  | n + 1, q, h => by
    obtain ⟨h1, h2⟩ := isSet_iff.1 h
    rw [subs, List.mem_append]
    by_cases hm : (n : Int) ∈ q
    · right
      rw [List.mem_map]
      have hs : isSet n (minus q [(n : Int)]) = true := by
        rw [isSet_iff]
        refine ⟨fun x hx => ?_, minus_sorted _ h2⟩
        obtain ⟨h3, h4⟩ := mem_minus.1 hx
        have := h1 x h3
        simp at h4
        omega
      refine ⟨_, mem_subs hs, ?_⟩
      refine sorted_ext ?_ h2 fun x => ?_
      · rw [List.pairwise_append]
        exact ⟨minus_sorted _ h2, by simp, fun x hx y hy => by
          simp at hy; subst hy
          exact ((isSet_iff.1 hs).1 x hx).2⟩
      · rw [List.mem_append, mem_minus]
        simp
        constructor
        · rintro (h | rfl)
          · exact h.1
          · exact hm
        · intro hx
          by_cases he : x = n
          · exact .inr he
          · exact .inl ⟨hx, he⟩
    · left
      refine mem_subs ?_
      rw [isSet_iff]
      refine ⟨fun x hx => ?_, h2⟩
      have := h1 x hx
      have : x ≠ n := fun e => hm (e ▸ hx)
      omega
theorem nodup_sub_len' {β : Type} [DecidableEq β] : ∀ {xs ys : List β}, xs.Nodup → (∀ x ∈ xs, x ∈ ys) → xs.length ≤ ys.length
  | [], ys, _, _ => by simp
  | x :: xs, ys, hn, h => by
    obtain ⟨h1, h2⟩ := List.nodup_cons.1 hn
    have hx := h x (by simp)
    have := nodup_sub_len' (xs := xs) (ys := ys.erase x) h2 fun y hy => by
      have hne : y ≠ x := fun e => h1 (by rw [← e]; exact hy)
      exact (List.mem_erase_of_ne hne).2 (h y (by simp [hy]))
    rw [List.length_erase_of_mem hx] at this
    have := List.length_pos_of_mem hx
    simp; omega
theorem asks_few {α : Type} (o : List Int → Int) {n : Nat} (t : Tr (List Int) Int α) (h : t.All fun q => isSet n q = true) : (t.asks o []).length ≤ 2 ^ n := by
  rw [← subs_length n]
  exact nodup_sub_len' (Tr.asks_nodup o t []) fun q hq => mem_subs (Tr.asks_all o t [] h q hq)
end Go.Proofs.YtjpbmbonccenfaaDoor

/- Schedule, as a tree of questions. -/
namespace Go.Proofs.YtjpbmbonccenfaaDoor
open Go.RowKit
set_option linter.unusedVariables false

/-- The schedule in which a preemption is joined. -/
def mvdOf (l : List Pk) (k : Nat) : List Pk := joinedOf (mvOf l k (laterOf l k).toNat)
/-- The result of the search: an error, the schedule. -/
abbrev PRes := Int × List Pk
def schT : Nat → List Pk → Nat → Tr (List Pk) Int PRes
  | 0, l, _ => .ret (0, l)
  | t + 1, l, k => if k < l.length then (if laterOf l k < 0 then schT t l (k + 1) else .ask (mvdOf l k) fun v => if v = 2 then schT t (mvdOf l k) 0 else schT t l (k + 1)) else .ret (0, l)
def schM (l : List Pk) (k : Nat) : Nat := l.length * 1000 + (l.length - k)
def scheduleT (l : List Pk) : Tr (List Pk) Int PRes := .ask l fun v => if v = 2 then schT (schM l 0 + 1) l 0 else .ret (7, l)
structure Pq where
  done : Bool
  picks : List Pk
  deriving DecidableEq
def askSP (ans : List Int) (s : Nat × KnP) (q : List Pk) : Option (Int × (Nat × KnP)) := (askVP ans s.1 s.2 q).map fun r => (r.1, (r.2.1, r.2.2))
theorem askS_noneP {ans : List Int} {u : Nat} {kn : KnP} {q : List Pk} (h : askVP ans u kn q = none) : askSP ans (u, kn) q = none := by simp [askSP, h]
theorem askS_someP {ans : List Int} {u u' : Nat} {kn kn' : KnP} {q : List Pk} {v : Int} (h : askVP ans u kn q = some (v, u', kn')) : askSP ans (u, kn) q = some (v, (u', kn')) := by simp [askSP, h]
def pqNone : Pq := ⟨false, []⟩
def finP (ans : List Int) : List Pk ⊕ (PRes × (Nat × KnP)) → Pq × Int
  | .inl q => (⟨false, q⟩, 0)
  | .inr ((er, l), (u, _)) => if er ≠ 0 then (⟨false, []⟩, er) else if u < ans.length then (⟨false, []⟩, 8) else (⟨true, l⟩, 0)
def qOfP (ans : List Int) (t : Tr (List Pk) Int PRes) : Pq × Int := if 4096 < ans.length then (⟨false, []⟩, 3) else finP ans (t.go (askSP ans) (0, []))
def scheduleOf (ps : List Pk) (ans : List Int) : Pq × Int :=
  if (normal ps).2 ≠ 0 then (⟨false, []⟩, (normal ps).2) else if 256 < (normal ps).1.length then (⟨false, []⟩, 3) else qOfP ans (scheduleT (normal ps).1)

/-- A normal form. -/
structure NF (l : List Pk) : Prop where
  val : Val l
  tot : tot l ≤ 65536
  apart : Apart l
section
variable {l ps : List Pk} {k t : Nat}
theorem sch_end (h : ¬ k < l.length) : schT (t + 1) l k = .ret (0, l) := if_neg h
theorem sch_skip (h : k < l.length) (hl : laterOf l k < 0) : schT (t + 1) l k = schT t l (k + 1) := by rw [schT, if_pos h, if_pos hl]
theorem sch_ask (h : k < l.length) (hl : ¬ laterOf l k < 0) : schT (t + 1) l k = .ask (mvdOf l k) fun v => if v = 2 then schT t (mvdOf l k) 0 else schT t l (k + 1) := by rw [schT, if_pos h, if_neg hl]
theorem sch_next (h : k < l.length) : schM l (k + 1) < schM l k := by unfold schM; omega
theorem NF.i64 (h : NF l) : ∀ p ∈ l, (-9223372036854775808 ≤ p.1 ∧ p.1 ≤ 9223372036854775807) ∧ (-9223372036854775808 ≤ p.2 ∧ p.2 ≤ 9223372036854775807) := fun p hp => by
  have h1 := h.val p hp
  have h2 := tot_mem_le (fun p hp => by have := h.val p hp; omega) hp
  have := h.tot
  omega
theorem nf_joined (hv : Val ps) (ht : Go.Proofs.YtjpbmbonccenfaaDoor.tot ps ≤ 65536) : NF (joinedOf ps) := by
  rw [joined_rl]
  exact ⟨rl_val hv, by rw [rl_tot]; exact ht, rl_apart_ ps⟩
theorem nf_normal (h : (normal ps).2 = 0) : NF (normal ps).1 := by
  unfold normal at h ⊢
  by_cases h0 : checkP 0 ps = 0
  · rw [if_pos h0] at h ⊢
    obtain ⟨h1, h2⟩ := joined_facts2 h0
    refine ⟨h1, h2, ?_⟩
    show Apart (joinedOf ps)
    rw [joined_rl]
    exact rl_apart_ ps
  · rw [if_neg h0] at h
    exact absurd h h0
theorem NF.self (h : NF l) : normal l = (l, 0) := by
  unfold normal
  rw [if_pos (checkP_ok l 0 h.val (by have := h.tot; omega) (Int.le_refl _)), joined_rl, rl_self h.apart]
theorem tot_ge_len (h : Val l) : (l.length : Int) ≤ Go.Proofs.YtjpbmbonccenfaaDoor.tot l := by
  unfold Go.Proofs.YtjpbmbonccenfaaDoor.tot
  induction l with
  | nil => simp
  | cons p l ih =>
    have h1 := h p (by simp)
    have h2 := ih fun q hq => h q (by simp [hq])
    simp only [List.map_cons, List.sum_cons, List.length_cons]
    omega
/-- What a preemption joined leads to. -/
structure MvStep (l : List Pk) (k : Nat) : Prop where
  next : ∃ n : Nat, laterOf l k = n ∧ k < n ∧ n < l.length ∧ mvdOf l k = joinedOf (mvOf l k n) ∧ Fine (mvOf l k n)
  nf : NF (mvdOf l k)
  less : (mvdOf l k).length < l.length
  steps : ∀ t, stepsOf t (mvdOf l k) = stepsOf t l
theorem mv_step (h : NF l) (hl : ¬ laterOf l k < 0) : MvStep l k := by
  obtain ⟨n, hn, h1, h2, h3⟩ := later_range (ps := l) (k := k) (by omega)
  have e : mvdOf l k = joinedOf (mvOf l k n) := by unfold mvdOf; rw [hn]; simp
  have hlen : (mvOf l k n).length = l.length := by
    have := mv_len (l := l) h1 l.length
    rw [if_pos h2, if_pos (show k < l.length by omega)] at this
    unfold mvOf; omega
  have hval : Val (mvOf l k n) := mv_val h.val h2 _ (Nat.le_refl _)
  have htot : Go.Proofs.YtjpbmbonccenfaaDoor.tot (mvOf l k n) = Go.Proofs.YtjpbmbonccenfaaDoor.tot l := mv_tot h1 h2
  refine ⟨⟨n, hn, h1, h2, e, mv_fine h.val h.tot h1 h2⟩, ?_, ?_, fun t => ?_⟩
  · rw [e]
    exact nf_joined hval (by rw [htot]; exact h.tot)
  · rw [e, joined_rl]
    obtain ⟨x, y, hxy⟩ := mv_has (l := l) h1 l.length (by omega)
    have : mvOf l k n = x ++ l.getD k (0, 0) :: l.getD n (0, 0) :: y := hxy
    rw [← hlen, this]
    exact rl_less x y h3.symm
  · rw [e, joined_rl, rl_steps]
    have := mv_steps (l := l) h1 t l.length (Nat.le_refl _)
    rw [if_pos h2, if_pos (show k < l.length by omega), List.take_length] at this
    unfold mvOf
    generalize (if (l.getD n (0, 0)).1 = t then (l.getD n (0, 0)).2 else 0) = z at this
    omega
theorem sch_less (h : NF l) (hl : ¬ laterOf l k < 0) (hb : l.length ≤ 256) : schM (mvdOf l k) 0 < schM l k := by
  have := (mv_step h hl).less
  unfold schM
  omega
end
end Go.Proofs.YtjpbmbonccenfaaDoor
