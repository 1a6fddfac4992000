/- Texts of this seat, one behind the other: Tr, Chg, AllN, RWout. -/
import Derived.Test.YtippadnbngcjlaaDoorg328
import Derived.Test.YtippadnbngcjlaaDoorg314
import Derived.Test.YtippadnbngcjlaaDoorg329
import Derived.Deep.LoopGhost
/- Searches as trees of questions: what they ask, how they end, when an oracle answers. -/
namespace Go.Proofs.YtippadnbngcjlaaDoor
open Go.RowKit
set_option linter.unusedVariables false

/-- A search: an end, or a question and how it goes on with the answer. -/
inductive Tr (Q A α : Type) where
  | ret (a : α) : Tr Q A α
  | ask (q : Q) (k : A → Tr Q A α) : Tr Q A α
namespace Tr
section
variable {Q A α S : Type}
/-- The search goes through what answers it: a question that is not answered, or the end. -/
def go (step : S → Q → Option (A × S)) : Tr Q A α → S → Q ⊕ (α × S)
  | .ret a, s => .inr (a, s)
  | .ask q k, s => match step s q with
    | none => .inl q
    | some (v, s') => (k v).go step s'
/-- The search with all its questions answered. -/
def res (o : Q → A) : Tr Q A α → α
  | .ret a => a
  | .ask q k => (k (o q)).res o
/-- What it asks that is not known yet. -/
def asks [DecidableEq Q] (o : Q → A) : Tr Q A α → List Q → List Q
  | .ret _, _ => []
  | .ask q k, ks => if q ∈ ks then (k (o q)).asks o ks else q :: (k (o q)).asks o (ks ++ [q])
/-- All its questions, whatever is answered. -/
def All (P : Q → Prop) : Tr Q A α → Prop
  | .ret _ => True
  | .ask q k => P q ∧ ∀ a, (k a).All P
/-- All its ends, whatever is answered. -/
def Ends (P : α → Prop) : Tr Q A α → Prop
  | .ret a => P a
  | .ask _ k => ∀ a, (k a).Ends P
theorem go_ret (step : S → Q → Option (A × S)) (a : α) (s : S) : (Tr.ret a).go step s = .inr (a, s) := rfl
theorem go_none {step : S → Q → Option (A × S)} {q : Q} {k : A → Tr Q A α} {s : S} (h : step s q = none) : (Tr.ask q k).go step s = .inl q := by simp [go, h]
theorem go_some {step : S → Q → Option (A × S)} {q : Q} {k : A → Tr Q A α} {s s' : S} {v : A} (h : step s q = some (v, s')) : (Tr.ask q k).go step s = (k v).go step s' := by simp [go, h]
theorem asks_new [DecidableEq Q] (o : Q → A) : ∀ (t : Tr Q A α) (ks : List Q), ∀ q ∈ t.asks o ks, q ∉ ks
  | .ret _, ks, q, h => by simp [asks] at h
  | .ask q0 k, ks, q, h => by
    rw [asks] at h
    by_cases h0 : q0 ∈ ks
    · rw [if_pos h0] at h; exact asks_new o _ ks q h
    · rw [if_neg h0] at h
      rcases List.mem_cons.1 h with rfl | h
      · exact h0
      · exact fun hq => asks_new o _ (ks ++ [q0]) q h (by simp [hq])
theorem asks_nodup [DecidableEq Q] (o : Q → A) : ∀ (t : Tr Q A α) (ks : List Q), (t.asks o ks).Nodup
  | .ret _, ks => by simp [asks]
  | .ask q0 k, ks => by
    rw [asks]
    by_cases h0 : q0 ∈ ks
    · rw [if_pos h0]; exact asks_nodup o _ ks
    · rw [if_neg h0]
      exact List.nodup_cons.2 ⟨fun h => asks_new o _ _ q0 h (by simp), asks_nodup o _ _⟩
theorem asks_all [DecidableEq Q] (o : Q → A) {P : Q → Prop} : ∀ (t : Tr Q A α) (ks : List Q), t.All P → ∀ q ∈ t.asks o ks, P q
  | .ret _, ks, _, q, h => by simp [asks] at h
  | .ask q0 k, ks, hp, q, h => by
    rw [asks] at h
    by_cases h0 : q0 ∈ ks
    · rw [if_pos h0] at h; exact asks_all o _ ks (hp.2 _) q h
    · rw [if_neg h0] at h
      rcases List.mem_cons.1 h with rfl | h
      · exact hp.1
      · exact asks_all o _ _ (hp.2 _) q h
theorem ends_res (o : Q → A) {P : α → Prop} : ∀ (t : Tr Q A α), t.Ends P → P (t.res o)
  | .ret _, h => h
  | .ask q k, h => ends_res o (k (o q)) (h _)
theorem ends_go {P : α → Prop} {step : S → Q → Option (A × S)} {a : α} {s' : S} : ∀ (t : Tr Q A α) (s : S), t.Ends P → t.go step s = .inr (a, s') → P a
  | .ret b, s, h, hg => by
    simp only [go, Sum.inr.injEq, Prod.mk.injEq] at hg
    exact hg.1 ▸ h
  | .ask q k, s, h, hg => by
    unfold go at hg
    rcases hs : step s q with _ | ⟨v, s1⟩
    · simp [hs] at hg
    · simp only [hs] at hg
      exact ends_go (k v) s1 (h v) hg
theorem all_go {P : Q → Prop} {step : S → Q → Option (A × S)} {q0 : Q} : ∀ (t : Tr Q A α) (s : S), t.All P → t.go step s = .inl q0 → P q0
  | .ret b, s, h, hg => by simp [go] at hg
  | .ask q k, s, h, hg => by
    unfold go at hg
    rcases hs : step s q with _ | ⟨v, s1⟩
    · simp only [hs, Sum.inl.injEq] at hg
      exact hg ▸ h.1
    · simp only [hs] at hg
      exact all_go (k v) s1 (h.2 v) hg
end
end Tr

theorem lookup_said (o : List Int → Int) (q : List Int) : ∀ ks : List (List Int), @List.lookup (List Int) Int instBEqOfDecidableEq q (ks.map fun k => (k, o k)) = if q ∈ ks then some (o q) else none
  | [] => rfl
  | k :: ks => by
    show (match @BEq.beq (List Int) instBEqOfDecidableEq q k with | true => some (o k) | false => @List.lookup (List Int) Int instBEqOfDecidableEq q (ks.map fun k => (k, o k))) = _
    by_cases h : q = k
    · subst h
      have : (@BEq.beq (List Int) instBEqOfDecidableEq q q) = true := decide_eq_true rfl
      rw [this]; simp
    · have : (@BEq.beq (List Int) instBEqOfDecidableEq q k) = false := decide_eq_false h
      rw [this]
      show @List.lookup (List Int) Int instBEqOfDecidableEq q (ks.map fun k => (k, o k)) = _
      rw [lookup_said o q ks]
      simp [h]

/-- One question of a search that goes through its answers. -/
def askS (ans : List Int) (s : Nat × Kn) (q : List Int) : Option (Int × (Nat × Kn)) := (askV ans s.1 s.2 q).map fun r => (r.1, (r.2.1, r.2.2))
theorem askS_none {ans : List Int} {u : Nat} {kn : Kn} {q : List Int} (h : askV ans u kn q = none) : askS ans (u, kn) q = none := by simp [askS, h]
theorem askS_some {ans : List Int} {u u' : Nat} {kn kn' : Kn} {q : List Int} {v : Int} (h : askV ans u kn q = some (v, u', kn')) : askS ans (u, kn) q = some (v, (u', kn')) := by simp [askS, h]

/-- What is known of sets that an oracle was asked. -/
def saidOf (o : List Int → Int) (ks : List (List Int)) : Kn := ks.map fun k => (k, o k)
section
variable {α : Type}
theorem go_stop (o : List Int → Int) (ho : ∀ q, told (o q) = o q) (q0 : List Int) (rest : List (List Int)) :
    ∀ (t : Tr (List Int) Int α) (ks more : List (List Int)), t.asks o ks = more ++ q0 :: rest → t.go (askS ((ks ++ more).map o)) (ks.length, saidOf o ks) = .inl q0
  | .ret _, ks, more, h => by simp [Tr.asks] at h
  | .ask q k, ks, more, h => by
    rw [Tr.asks] at h
    by_cases h0 : q ∈ ks
    · rw [if_pos h0] at h
      rw [Tr.go_some (v := o q) (s' := (ks.length, saidOf o ks)) (askS_some (askV_known (by unfold saidOf; rw [lookup_said, if_pos h0])))]
      exact go_stop o ho q0 rest _ ks more h
    · rw [if_neg h0] at h
      have hl : @List.lookup (List Int) Int instBEqOfDecidableEq q (saidOf o ks) = none := by unfold saidOf; rw [lookup_said, if_neg h0]
      rcases more with _ | ⟨m, more⟩
      · simp only [List.nil_append, List.cons.injEq] at h
        rw [← h.1]
        exact Tr.go_none (askS_none (askV_ask hl (by simp)))
      · simp only [List.cons_append, List.cons.injEq] at h
        obtain ⟨rfl, h⟩ := h
        have hg : askV ((ks ++ q :: more).map o) ks.length (saidOf o ks) q = some (told (o q), ks.length + 1, saidOf o ks ++ [(q, told (o q))]) := askV_got hl (by simp)
        rw [Tr.go_some (askS_some hg), ho]
        have := go_stop o ho q0 rest _ (ks ++ [q]) more h
        simpa [saidOf] using this
theorem go_whole (o : List Int → Int) (ho : ∀ q, told (o q) = o q) (extra : List Int) :
    ∀ (t : Tr (List Int) Int α) (ks : List (List Int)), t.go (askS ((ks ++ t.asks o ks).map o ++ extra)) (ks.length, saidOf o ks) = .inr (t.res o, ((ks ++ t.asks o ks).length, saidOf o (ks ++ t.asks o ks)))
  | .ret _, ks => by simp [Tr.asks, Tr.go, Tr.res]
  | .ask q k, ks => by
    rw [Tr.asks, Tr.res]
    by_cases h0 : q ∈ ks
    · rw [if_pos h0, Tr.go_some (v := o q) (s' := (ks.length, saidOf o ks)) (askS_some (askV_known (by unfold saidOf; rw [lookup_said, if_pos h0])))]
      exact go_whole o ho extra _ ks
    · rw [if_neg h0]
      have hl : @List.lookup (List Int) Int instBEqOfDecidableEq q (saidOf o ks) = none := by unfold saidOf; rw [lookup_said, if_neg h0]
      have hg : askV ((ks ++ q :: (k (o q)).asks o (ks ++ [q])).map o ++ extra) ks.length (saidOf o ks) q = some (told (o q), ks.length + 1, saidOf o ks ++ [(q, told (o q))]) := askV_got hl (by simp)
      rw [Tr.go_some (askS_some hg), ho]
      have := go_whole o ho extra (k (o q)) (ks ++ [q])
      simpa [saidOf] using this
end

/-- What a search returns: an error, what is kept, what passes. -/
abbrev Res := Int × List Int × List Int
/-- A search for sets with answers: the next question, the result or the error. -/
def qOf (ans : List Int) (t : Tr (List Int) Int Res) : Qst × Int :=
  if 4096 < ans.length then (qNone, 3)
  else match t.go (askS ans) (0, []) with
    | .inl q => (⟨false, q, [], []⟩, 0)
    | .inr ((er, kept, pass), (u, _)) => endOf false [] er (decide (u < ans.length)) kept pass
theorem qOf_stop {o : List Int → Int} (ho : ∀ q, told (o q) = o q) {t : Tr (List Int) Int Res} {more rest : List (List Int)} {q : List Int} (h : t.asks o [] = more ++ q :: rest) (hl : more.length ≤ 4096) :
    qOf (more.map o) t = (⟨false, q, [], []⟩, 0) := by
  unfold qOf
  rw [if_neg (by simp; omega)]
  have := go_stop o ho q rest t [] more h
  simp only [List.nil_append, List.length_nil, saidOf, List.map_nil] at this
  rw [this]
theorem qOf_whole {o : List Int → Int} (ho : ∀ q, told (o q) = o q) (t : Tr (List Int) Int Res) (extra : List Int) (hl : (t.asks o []).length + extra.length ≤ 4096) :
    qOf ((t.asks o []).map o ++ extra) t = endOf false [] (t.res o).1 (decide (0 < extra.length)) (t.res o).2.1 (t.res o).2.2 := by
  unfold qOf
  rw [if_neg (by simp; omega)]
  have := go_whole o ho extra t []
  simp only [List.nil_append, List.length_nil, saidOf, List.map_nil] at this
  rw [this]
  simp

/-- All sets of numbers below n. -/
def subs : Nat → List (List Int)
  | 0 => [[]]
  | n + 1 => subs n ++ (subs n).map (· ++ [(n : Int)])
theorem subs_length : ∀ n, (subs n).length = 2 ^ n
  | 0 => rfl
  | n + 1 => by simp [subs, subs_length n]; omega
theorem mem_subs : ∀ {n : Nat} {q : List Int}, isSet n q = true → q ∈ subs n
  | 0, q, h => by
    have := (isSet_iff.1 h).1
    rcases q with _ | ⟨x, q⟩
    · simp [subs]
    · have := this x (by simp); omega
  | n + 1, q, h => by
    obtain ⟨h1, h2⟩ := isSet_iff.1 h
    rw [subs, List.mem_append]
    by_cases hm : (n : Int) ∈ q
    · right
      rw [List.mem_map]
      have hs : isSet n (minus q [(n : Int)]) = true := by
        rw [isSet_iff]
        refine ⟨fun x hx => ?_, minus_sorted _ h2⟩
        obtain ⟨h3, h4⟩ := mem_minus.1 hx
        have := h1 x h3
        simp at h4
        omega
      refine ⟨_, mem_subs hs, ?_⟩
      refine sorted_ext ?_ h2 fun x => ?_
      · rw [List.pairwise_append]
        exact ⟨minus_sorted _ h2, by simp, fun x hx y hy => by
          simp at hy; subst hy
          exact ((isSet_iff.1 hs).1 x hx).2⟩
      · rw [List.mem_append, mem_minus]
        simp
        constructor
        · rintro (h | rfl)
          · exact h.1
          · exact hm
        · intro hx
          by_cases he : x = n
          · exact .inr he
          · exact .inl ⟨hx, he⟩
    · left
      refine mem_subs ?_
      rw [isSet_iff]
      refine ⟨fun x hx => ?_, h2⟩
      have := h1 x hx
      have : x ≠ n := fun e => hm (e ▸ hx)
      omega
theorem nodup_sub_len' {β : Type} [DecidableEq β] : ∀ {xs ys : List β}, xs.Nodup → (∀ x ∈ xs, x ∈ ys) → xs.length ≤ ys.length
  | [], ys, _, _ => by simp
  | x :: xs, ys, hn, h => by
    obtain ⟨h1, h2⟩ := List.nodup_cons.1 hn
    have hx := h x (by simp)
    have := nodup_sub_len' (xs := xs) (ys := ys.erase x) h2 fun y hy => by
      have hne : y ≠ x := fun e => h1 (by rw [← e]; exact hy)
      exact (List.mem_erase_of_ne hne).2 (h y (by simp [hy]))
    rw [List.length_erase_of_mem hx] at this
    have := List.length_pos_of_mem hx
    simp; omega
theorem asks_few {α : Type} (o : List Int → Int) {n : Nat} (t : Tr (List Int) Int α) (h : t.All fun q => isSet n q = true) : (t.asks o []).length ≤ 2 ^ n := by
  rw [← subs_length n]
  exact nodup_sub_len' (Tr.asks_nodup o t []) fun q hq => mem_subs (Tr.asks_all o t [] h q hq)
end Go.Proofs.YtippadnbngcjlaaDoor

/- Changes: what is left without a change, closed sets as plain functions; the search for changes as a tree of questions. -/
namespace Go.Proofs.YtippadnbngcjlaaDoor
open Go.RowKit
set_option linter.unusedVariables false

/-- Is it gone with an element? -/
def GoneP (L : List (List Int)) (set : List Int) (i x : Int) : Prop := ∀ D : Int → Bool, D i = true → (∀ x ∈ set, ∀ y ∈ needsOf L x, D y = true → D x = true) → D x = true
open Classical in
noncomputable def goneB (L : List (List Int)) (set : List Int) (i x : Int) : Bool := decide (GoneP L set i x)
theorem goneB_iff {L : List (List Int)} {set : List Int} {i x : Int} : goneB L set i x = true ↔ GoneP L set i x := by unfold goneB; simp
theorem gone_is (L : List (List Int)) (set : List Int) (i : Int) : IsGn L set i (goneB L set i) :=
  ⟨goneB_iff.2 fun D h _ => h, fun x hx y hy hg => goneB_iff.2 fun D h1 h2 => h2 x hx y hy (goneB_iff.1 hg D h1 h2), fun D h1 h2 x hg => goneB_iff.1 hg D h1 h2⟩
/-- What is left without an element and what needs it. -/
noncomputable def wout (L : List (List Int)) (set : List Int) (i : Int) : List Int := set.filter fun x => !goneB L set i x
theorem mem_wout {L : List (List Int)} {set : List Int} {i x : Int} : x ∈ wout L set i ↔ x ∈ set ∧ goneB L set i x = false := by unfold wout; simp
theorem wout_of {L : List (List Int)} {set : List Int} {i : Int} {gs : List Bool} (h : IsGn L set i (inB gs)) : minus set (pickedOf gs) = wout L set i := by
  unfold minus wout
  refine List.filter_congr fun x hx => ?_
  have : x ∈ pickedOf gs ↔ goneB L set i x = true := by
    rw [mem_picked]
    exact ⟨fun hg => goneB_iff.2 fun D d1 d2 => h.least D d1 d2 x hg, fun hg => goneB_iff.1 hg _ h.base h.step⟩
  rcases hb : goneB L set i x with _ | _ <;> simp [this, hb]
theorem wout_not (L : List (List Int)) (set : List Int) (i : Int) : i ∉ wout L set i := fun h => by
  have := (mem_wout.1 h).2
  rw [(gone_is L set i).base] at this
  cases this
theorem wout_sorted {set : List Int} (L : List (List Int)) (i : Int) (h : set.Pairwise (· < ·)) : (wout L set i).Pairwise (· < ·) := h.filter _
theorem wout_set {n : Int} {set : List Int} (L : List (List Int)) (i : Int) (h : isSet n set = true) : isSet n (wout L set i) = true := by
  rw [isSet_iff] at *
  exact ⟨fun x hx => h.1 x (mem_wout.1 hx).1, wout_sorted L i h.2⟩
theorem wout_lt {L : List (List Int)} {set : List Int} {i : Int} (h : i ∈ set) : (wout L set i).length < set.length := by
  unfold wout
  exact List.length_filter_lt_length_iff_exists.2 ⟨i, h, by simp [(gone_is L set i).base]⟩
theorem wout_le (L : List (List Int)) (set : List Int) (i : Int) : (wout L set i).length ≤ set.length := List.length_filter_le _ _
theorem wout_closed {L : List (List Int)} {set : List Int} {i : Int} (hs : isClosedB L set = true) : isClosedB L (wout L set i) = true := by
  rw [isClosed_iff] at *
  intro x hx y hy
  obtain ⟨h1, h2⟩ := mem_wout.1 hx
  refine mem_wout.2 ⟨hs x h1 y hy, ?_⟩
  rcases hb : goneB L set i y with _ | _
  · rfl
  · rw [(gone_is L set i).step x h1 y hy hb] at h2; cases h2
theorem wout_most {L : List (List Int)} {set z : List Int} {i : Int} (hz : isClosedB L z = true) (hs : ∀ x ∈ z, x ∈ set) (hi : i ∉ z) : ∀ x ∈ z, x ∈ wout L set i := fun x hx => by
  refine mem_wout.2 ⟨hs x hx, ?_⟩
  rcases hb : goneB L set i x with _ | _
  · rfl
  · have := goneB_iff.1 hb (fun y => decide (y ∉ z)) (by simpa using hi) (fun a ha y hy hD => by
      simp only [decide_eq_true_eq] at hD ⊢
      exact fun haz => hD (isClosed_iff.1 hz a haz y hy))
    simp at this
    exact absurd hx this

/-- The smallest closed set. -/
def CloP (L : List (List Int)) (set : List Int) (x : Int) : Prop := ∀ D : Int → Bool, (∀ x ∈ set, D x = true) → (∀ x, D x = true → ∀ y ∈ needsOf L x, D y = true) → D x = true
open Classical in
noncomputable def clo (L : List (List Int)) (set : List Int) : List Int := pickedOf ((List.range L.length).map fun (k : Nat) => decide (CloP L set (k : Int)))
theorem clo_of {L : List (List Int)} {set : List Int} {bs : List Bool} (hl : bs.length = L.length) (h : IsCl L set (inB bs)) : pickedOf bs = clo L set := by
  unfold clo
  congr 1
  refine List.ext_getElem (by simpa using hl) fun k h1 h2 => ?_
  have : inB bs (k : Int) = true ↔ CloP L set (k : Int) := ⟨fun hg D d1 d2 => h.least D d1 d2 _ hg, fun hg => hg _ h.base h.step⟩
  rw [inB_at (List.getElem?_eq_getElem h1)] at this
  rcases hb : bs[k] with _ | _ <;> simp [hb] at this ⊢ <;> exact this

/-- The search for changes, from a set and a place on. -/
noncomputable def chgT (L : List (List Int)) : Nat → List Int → Nat → Tr (List Int) Int Res
  | 0, set, _ => .ret (0, set, [])
  | t + 1, set, i => if i < set.length then .ask (wout L set (set.getD i 0)) fun v => if v = 2 then chgT L t (wout L set (set.getD i 0)) 0 else chgT L t set (i + 1) else .ret (0, set, [])
theorem chgT_end {L : List (List Int)} {t : Nat} {set : List Int} {i : Nat} (h : ¬ i < set.length) : chgT L (t + 1) set i = .ret (0, set, []) := by rw [chgT, if_neg h]
theorem chgT_ask {L : List (List Int)} {t : Nat} {set : List Int} {i : Nat} {x : Int} (h : set[i]? = some x) : chgT L (t + 1) set i = .ask (wout L set x) fun v => if v = 2 then chgT L t (wout L set x) 0 else chgT L t set (i + 1) := by
  have hi : i < set.length := (List.getElem?_eq_some_iff.1 h).1
  have hx : set.getD i 0 = x := by simp [h]
  rw [chgT, if_pos hi, hx]
/-- How much is left to do. -/
def chgM (set : List Int) (i : Nat) : Nat := set.length * 1000 + (set.length - i)
/-- All numbers below n. -/
def upTo (n : Nat) : List Int := (List.range n).map fun (k : Nat) => (k : Int)
theorem upTo_length (n : Nat) : (upTo n).length = n := by simp [upTo]
theorem mem_upTo {n : Nat} {x : Int} : x ∈ upTo n ↔ 0 ≤ x ∧ x < n := by
  unfold upTo
  rw [List.mem_map]
  constructor
  · rintro ⟨k, hk, rfl⟩
    have := List.mem_range.1 hk
    omega
  · intro h
    exact ⟨x.toNat, by simp; omega, by omega⟩
theorem upTo_sorted (n : Nat) : (upTo n).Pairwise (· < ·) := by
  unfold upTo
  rw [List.pairwise_map]
  exact List.pairwise_lt_range.imp (by omega)
theorem upTo_set (n : Nat) : isSet n (upTo n) = true := isSet_iff.2 ⟨fun x hx => mem_upTo.1 hx, upTo_sorted n⟩
theorem upTo_succ (n : Nat) : upTo (n + 1) = upTo n ++ [(n : Int)] := by unfold upTo; rw [List.range_succ]; simp
theorem needsOf_in {L : List (List Int)} (h : checkNeeds L = 0) {x : Int} (hx : 0 ≤ x ∧ x < L.length) : isSet L.length (needsOf L x) = true := by
  unfold needsOf
  have hlt : x.toNat < L.length := by omega
  rw [List.getD_eq_getElem?_getD, List.getElem?_eq_getElem hlt]
  exact (needs_facts h).2 _ (List.getElem_mem hlt)
theorem upTo_closed {L : List (List Int)} (h : checkNeeds L = 0) : isClosedB L (upTo L.length) = true :=
  isClosed_iff.2 fun x hx y hy => mem_upTo.2 ((isSet_iff.1 (needsOf_in h (mem_upTo.1 hx))).1 y hy)
noncomputable def changesT (L : List (List Int)) : Tr (List Int) Int Res :=
  .ask (upTo L.length) fun v => if v = 2 then chgT L (chgM (upTo L.length) 0 + 1) (upTo L.length) 0 else .ret (7, [], [])
/-- Changes. -/
noncomputable def changesOf (L : List (List Int)) (ans : List Int) : Qst × Int := if checkNeeds L ≠ 0 then (qNone, checkNeeds L) else qOf ans (changesT L)

theorem chg_fail {L : List (List Int)} {set : List Int} {i : Nat} {x : Int} (h : set[i]? = some x) (hl : set.length ≤ 256) : chgM (wout L set x) 0 < chgM set i := by
  have hi : i < set.length := (List.getElem?_eq_some_iff.1 h).1
  have := wout_lt (L := L) (List.mem_of_getElem? h)
  unfold chgM
  omega
theorem chg_next {set : List Int} {i : Nat} (h : i < set.length) : chgM set (i + 1) < chgM set i := by unfold chgM; omega
theorem chgT_all {L : List (List Int)} : ∀ (t : Nat) (set : List Int) (i : Nat), isSet L.length set = true → isClosedB L set = true → (chgT L t set i).All fun q => isSet L.length q = true ∧ isClosedB L q = true
  | 0, _, _, _, _ => trivial
  | t + 1, set, i, h1, h2 => by
    by_cases h : i < set.length
    · rw [chgT_ask (List.getElem?_eq_getElem h)]
      refine ⟨⟨wout_set _ _ h1, wout_closed h2⟩, fun v => ?_⟩
      show Tr.All _ (if v = 2 then _ else _)
      by_cases hv : v = 2
      · rw [if_pos hv]; exact chgT_all t _ _ (wout_set _ _ h1) (wout_closed h2)
      · rw [if_neg hv]; exact chgT_all t _ _ h1 h2
    · rw [chgT_end h]; trivial
theorem changesT_all {L : List (List Int)} (h : checkNeeds L = 0) : (changesT L).All fun q => isSet L.length q = true ∧ isClosedB L q = true :=
  ⟨⟨upTo_set _, upTo_closed h⟩, fun v => by
    show Tr.All _ (if v = 2 then _ else _)
    by_cases hv : v = 2
    · rw [if_pos hv]; exact chgT_all _ _ _ (upTo_set _) (upTo_closed h)
    · rw [if_neg hv]; trivial⟩
/-- The result fails, and without any of its changes it does not. -/
structure ChgOk (L : List (List Int)) (o : List Int → Int) (r : Res) : Prop where
  er : r.1 = 0
  pass : r.2.2 = []
  set : isSet L.length r.2.1 = true
  cl : isClosedB L r.2.1 = true
  fails : o r.2.1 = 2
  min : ∀ x ∈ r.2.1, o (wout L r.2.1 x) ≠ 2
theorem chgT_ok {L : List (List Int)} (o : List Int → Int) (t : Nat) : ∀ (set : List Int) (i : Nat), isSet L.length set = true → isClosedB L set = true → set.length ≤ 256 → chgM set i < t → Hid (o set = 2) → (∀ j x, j < i → set[j]? = some x → o (wout L set x) ≠ 2) → ChgOk L o ((chgT L t set i).res o) := by
  induction t with
  | zero => intro set i h1 h2 h3 h4; exact absurd h4 (Nat.not_lt_zero _)
  | succ t ih =>
    intro set i h1 h2 h3 h4 h5 h6
    by_cases h : i < set.length
    · have hx := List.getElem?_eq_getElem h
      rw [chgT_ask hx, Tr.res]
      by_cases hv : o (wout L set set[i]) = 2
      · rw [if_pos hv]
        have hm := chg_fail (L := L) hx h3
        have hl := wout_le L set set[i]
        exact ih _ 0 (wout_set _ _ h1) (wout_closed h2) (Nat.le_trans hl h3) (Nat.lt_of_lt_of_le hm (Nat.le_of_lt_succ h4)) hv (fun j x hj => absurd hj (Nat.not_lt_zero _))
      · rw [if_neg hv]
        have hm := chg_next h
        refine ih _ (i + 1) h1 h2 h3 (Nat.lt_of_lt_of_le hm (Nat.le_of_lt_succ h4)) h5 fun j x hj hjx => ?_
        by_cases e : j = i
        · subst e
          rw [hx] at hjx
          injection hjx with hjx
          exact hjx ▸ hv
        · exact h6 j x (by omega) hjx
    · rw [chgT_end h, Tr.res]
      refine ⟨rfl, rfl, h1, h2, h5.out, fun x hx => ?_⟩
      obtain ⟨j, hj, rfl⟩ := List.mem_iff_getElem.1 hx
      have hj' : j < set.length := hj
      exact h6 j _ (by omega) (List.getElem?_eq_getElem hj)
theorem changesT_ok {L : List (List Int)} (h : checkNeeds L = 0) (o : List Int → Int) : if o (upTo L.length) = 2 then ChgOk L o ((changesT L).res o) else (changesT L).res o = (7, [], []) := by
  have hl := (needs_facts h).1
  unfold changesT
  rw [Tr.res]
  by_cases hv : o (upTo L.length) = 2
  · simp only [if_pos hv]
    exact chgT_ok o _ _ 0 (upTo_set _) (upTo_closed h) (by rw [upTo_length]; omega) (Nat.lt_succ_self _) hv (fun j x hj => by omega)
  · simp only [if_neg hv]; rfl
end Go.Proofs.YtippadnbngcjlaaDoor

/- The set of n items: All of the reference, whole of the program. -/
namespace Go.Proofs.YtippadnbngcjlaaDoor
open Go.RowKit
set_option linter.unusedVariables false

set_option maxHeartbeats 800000 in
set_option maxRecDepth 20000 in
theorem whole_any (n : Int) (w : World) (hn : n ≤ 1000000) : Calls Tryd.prog 69 #[.int .i64 n] w (RetN w 3 (upTo n.toNat)) := by
  by_cases hneg : n < 0
  · have hb1 : max n 0 = 0 := by omega
    have HN := Lib.hid hneg
    clear hneg hn
    have h0 : Hid (upTo n.toNat = []) := by show _ = _; have := HN.out; rw [show n.toNat = 0 by omega]; rfl
    go_enter Tryd.func69, Tryd.ntmps69
    go_wp2_with (at_make; refine wpList_make0 rfl _ _ _ rfl elemInts 0 rfl rfl (by omega) ?_; intro w0 hown0 hg0)
    go_loopw [3, 10] (fun v i wr => i = .int .i64 (0 : Nat) ∧ GathN w 3 [] v wr) (fun _ i _ => 0)
    case atStart => exact ⟨rfl, GathN.made (Fr.refl _ _) hown0 hg0 rfl⟩
    case round =>
      clear hown0 hg0
      obtain ⟨rfl, A1, c1, rfl, hown, hf⟩ := hrel
      go_wp2
      go_ret
      exact GathN.ret hf hown (by rw [h0.out])
  · obtain ⟨m, rfl⟩ : ∃ m : Nat, n = m := ⟨n.toNat, by omega⟩
    rw [Int.toNat_natCast]
    go_enter Tryd.func69, Tryd.ntmps69
    go_wp2_with (at_make; refine wpList_make0 rfl _ _ _ rfl elemInts m rfl rfl (by omega) ?_; intro w0 hown0 hg0)
    go_loopw [3, 10] (fun v i wr => ∃ k : Nat, k ≤ m ∧ i = .int .i64 k ∧ GathN w 3 (upTo k) v wr) (fun _ i _ => m - (intOf i).toNat)
    case atStart => exact ⟨0, Nat.zero_le _, rfl, GathN.made (Fr.refl _ _) hown0 hg0 rfl⟩
    case round =>
      clear hown0 hg0
      obtain ⟨k, hk, rfl, A1, c1, rfl, hown, hf⟩ := hrel
      have hlen := Lib.hid (upTo_length k)
      rw [hlen.out] at hown ⊢
      by_cases hlt : k < m
      · go_wp2_with (at_builtin; refine wpList_append_rd rfl (.tmp 13) (.tmp 15) _ rfl elemInts (.slice A1 k c1) ((upTo k).map (.int .i64)) rfl (hown.alloc _) (some ⟨wr.heap.size, 0, none⟩) 1 [(k : Int)] (.int .i64) rfl (Rd.one wr _ _ _) one_i64 (by simp; omega) (by simp; have := hf.size; omega) ?_; intro A2 c2 w2 hown2 hg2 hat2)
        go_roundw
        case rel => exact ⟨k + 1, by omega, by go_num, by rw [show k + 1 = k + [(k : Int)].length from rfl]; exact GathN.snoc (hf.alloc _) (hown.alloc _) hg2 hown2 (by simp [upTo_succ])⟩
        case measure => simp [intOf]; omega
      · obtain rfl : k = m := by omega
        go_wp2
        go_ret
        exact GathN.ret hf hown rfl
end Go.Proofs.YtippadnbngcjlaaDoor

/- without and Without of the reference. -/
namespace Go.Proofs.YtippadnbngcjlaaDoor
open Go.RowKit
set_option linter.unusedVariables false

/-- Those whose needs are in a set. -/
def keepC (L : List (List Int)) (out xs : List Int) : List Int := xs.filter fun x => decide (minus (needsOf L x) out = [])
theorem keepC_yes {L : List (List Int)} {out xs : List Int} {k : Nat} {x : Int} (hx : Hid (xs[k]? = some x)) (h : minus (needsOf L x) out = []) : keepC L out (xs.take (k + 1)) = keepC L out (xs.take k) ++ [x] := by
  unfold keepC; rw [List.take_add_one, hx.out]; simp [h]
theorem keepC_no {L : List (List Int)} {out xs : List Int} {k : Nat} {x : Int} (hx : Hid (xs[k]? = some x)) (h : ¬ minus (needsOf L x) out = []) : keepC L out (xs.take (k + 1)) = keepC L out (xs.take k) := by
  unfold keepC; rw [List.take_add_one, hx.out]; simp [h]
theorem keepC_le (L : List (List Int)) (out xs : List Int) : (keepC L out xs).length ≤ xs.length := List.length_filter_le _ _
/-- What holds of it all the time. -/
structure WOk (L : List (List Int)) (set : List Int) (i : Int) (out : List Int) : Prop where
  ok : isSet L.length out = true
  sub : ∀ x ∈ out, x ∈ set
  no : i ∉ out
  most : ∀ x ∈ wout L set i, x ∈ out
theorem WOk.start {L : List (List Int)} {set : List Int} {i : Int} (h : isSet L.length set = true) : WOk L set i (minus set [i]) :=
  ⟨minus_set _ h, fun x hx => (mem_minus.1 hx).1, fun hi => (mem_minus.1 hi).2 (by simp), fun x hx => mem_minus.2 ⟨(mem_wout.1 hx).1, fun he => by
    simp at he
    subst he
    exact wout_not L set x hx⟩⟩
theorem WOk.next {L : List (List Int)} {set out : List Int} {i : Int} (h : WOk L set i out) (hc : isClosedB L set = true) : WOk L set i (keepC L out out) :=
  ⟨by
    have := isSet_iff.1 h.ok
    exact isSet_iff.2 ⟨fun x hx => this.1 x (List.mem_filter.1 hx).1, this.2.filter _⟩, fun x hx => h.sub x (List.mem_filter.1 hx).1, fun hi => h.no (List.mem_filter.1 hi).1, fun x hx => by
    refine List.mem_filter.2 ⟨h.most x hx, ?_⟩
    simp only [decide_eq_true_eq]
    exact minus_nil_iff.2 fun y hy => h.most y (isClosed_iff.1 (wout_closed hc) x hx y hy)⟩
theorem WOk.lt {L : List (List Int)} {out : List Int} (hn : isClosedB L out = false) : (keepC L out out).length < out.length := by
  unfold keepC
  rw [List.length_filter_lt_length_iff_exists]
  unfold isClosedB at hn
  obtain ⟨x, hx, h⟩ := List.all_eq_false.1 hn
  exact ⟨x, hx, by simpa using h⟩
theorem WOk.done {L : List (List Int)} {set out : List Int} {i : Int} (h : WOk L set i out) (hs : isSet L.length set = true) (hc : isClosedB L out = true) : out = wout L set i :=
  sorted_ext (isSet_iff.1 h.ok).2 (wout_sorted L i (isSet_iff.1 hs).2) fun x => ⟨wout_most hc h.sub h.no x, h.most x⟩
def RWInv (w : World) (L : List (List Int)) (set : List Int) (i : Int) (t : Nat) (v : Value) (wr : World) : Prop :=
  ∃ out, GathN w 3 out v wr ∧ Hid (WOk L set i out) ∧ out.length < t

end Go.Proofs.YtippadnbngcjlaaDoor
