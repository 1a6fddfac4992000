/- Texts of this seat, one behind the other: TrT, TrL1, TrL2, TrL3, HoiW, LevC, LevM, LevW, Tree1, TreeW, TrL4, Grow, GrowE, LGram. -/
import Derived.Test.YtippadnbngcjlaaGreatDoorh136
import Derived.Test.YtippadnbngcjlaaGreatDoorh128
import Derived.Test.YtippadnbngcjlaaGreatDoorh132
import Derived.Test.YtippadnbngcjlaaGreatDoorh123
import Derived.Test.YtippadnbngcjlaaGreatDoorh126
import Derived.Test.YtippadnbngcjlaaGreatDoorh137
import Derived.Test.YtippadnbngcjlaaGreatDoorh116
import Derived.Test.YtippadnbngcjlaaGreatDoorh13
import Derived.Test.YtippadnbngcjlaaGreatDoorh125
namespace Go.Proofs.YtippadnbngcjlaaGreatDoor
set_option linter.unusedVariables false

/- Tree, as a tree of questions; a question is known by its text. -/
section
open Go.RowKit
namespace Tr
section
variable {Q Q' A α β S : Type}
def bind (t : Tr Q A α) (f : α → Tr Q A β) : Tr Q A β := match t with
 | .ret a => f a
 | .ask q k => .ask q fun v => (k v).bind f
def via (φ : Q → Q') : Tr Q A α → Tr Q' A α
 | .ret a => .ret a
 | .ask q k => .ask (φ q) fun v => (k v).via φ
theorem go_bind {step : S → Q → Option (A × S)} (f : α → Tr Q A β) : ∀ (t : Tr Q A α) (s : S), (t.bind f).go step s = match t.go step s with
    | .inl q => .inl q
    | .inr (a, s') => (f a).go step s'
  | .ret a, s => rfl
  | .ask q k, s => by
    show (Tr.ask q fun v => (k v).bind f).go step s = _
    rcases h : step s q with _ | ⟨v, s'⟩
    · rw [go_none h, go_none h]
    · rw [go_some h, go_some h, go_bind f (k v) s']
theorem go_via {step : S → Q' → Option (A × S)} (φ : Q → Q') : ∀ (t : Tr Q A α) (s : S), (t.via φ).go step s = match t.go (fun s q => step s (φ q)) s with
    | .inl q => .inl (φ q)
    | .inr r => .inr r
  | .ret a, s => rfl
  | .ask q k, s => by
    show (Tr.ask (φ q) fun v => (k v).via φ).go step s = _
    rcases h : step s (φ q) with _ | ⟨v, s'⟩
    · rw [go_none h, go_none (step := fun s q => step s (φ q)) h]
    · rw [go_some h, go_some (step := fun s q => step s (φ q)) h, go_via φ (k v) s']
theorem all_bind {P : Q → Prop} {f : α → Tr Q A β} {E : α → Prop} : ∀ {t : Tr Q A α}, t.All P → t.Ends E → (∀ a, E a → (f a).All P) → (t.bind f).All P
 | .ret a, _, he, h => h a he
 | .ask q k, hp, he, h => ⟨hp.1, fun v => all_bind (hp.2 v) (he v) h⟩
theorem ends_bind {f : α → Tr Q A β} {E : α → Prop} {E' : β → Prop} : ∀ {t : Tr Q A α}, t.Ends E → (∀ a, E a → (f a).Ends E') → (t.bind f).Ends E'
 | .ret a, he, h => h a he
 | .ask q k, he, h => fun v => ends_bind (he v) h
theorem all_via {P : Q' → Prop} {φ : Q → Q'} (h : ∀ q, P (φ q)) : ∀ (t : Tr Q A α), (t.via φ).All P
 | .ret _ => trivial
 | .ask q k => ⟨h q, fun v => all_via h (k v)⟩
theorem ends_all {E : α → Prop} (h : ∀ a, E a) : ∀ (t : Tr Q A α), t.Ends E
 | .ret a => h a
 | .ask q k => fun v => ends_all h (k v)
end
end Tr
def askST (g : List Ru) (ans : List Int) (s : Nat × KnT) (q : T) : Option (Int × (Nat × KnT)) := (askVT ans s.1 s.2 (textL g q)).map fun r => (r.1, (r.2.1, r.2.2))
section
variable {g : List Ru} {ans : List Int} {u u' : Nat} {kn kn' : KnT} {q : T} {v : Int}
theorem askS_noneT (h : askVT ans u kn (textL g q) = none) : askST g ans (u, kn) q = none := by simp [askST, h]
theorem askS_someT (h : askVT ans u kn (textL g q) = some (v, u', kn')) : askST g ans (u, kn) q = some (v, (u', kn')) := by simp [askST, h]
theorem askS_noneT' {s : Nat × KnT} (h : askST g ans s q = none) : askVT ans s.1 s.2 (textL g q) = none := by
 unfold askST at h
 simpa using h
theorem askS_someT' {s s' : Nat × KnT} (h : askST g ans s q = some (v, s')) : askVT ans s.1 s.2 (textL g q) = some (v, s'.1, s'.2) := by
 unfold askST at h
 obtain ⟨⟨a, b, c⟩, h1, h2⟩ := Option.map_eq_some_iff.1 h
 simp only [Prod.mk.injEq] at h2
 obtain ⟨rfl, rfl⟩ := h2
 exact h1
end
def candAt (L : List Int) (d : Int) (l : List Sp) (i : Nat) : Bool := ((l[i]?).map fun p => decide (p.depth = d) && prunB L p).getD false
def candIx (L : List Int) (d : Int) (l : List Sp) (k : Nat) : List Int := ((List.range k).filter (candAt L d l)).map fun (i : Nat) => (i : Int)
def anyAt (d : Int) (l : List Sp) (k : Nat) : Bool := (l.take k).any fun p => decide (p.depth = d)
def candsT (g : List Ru) (L : List Int) (t : T) (d : Int) : List Int := candIx L d (spotsT g t slot0 1) t.nodes
def standT (g : List Ru) (L : List Int) (t : T) (c s : List Int) : T := prunedT g L (minus c s) t
def levelsT (g : List Ru) (L : List Int) : Nat → T → Nat → Tr T Int T
 | 0, t, _ => .ret t
 | f + 1, t, d => if anyAt d (spotsT g t slot0 1) t.nodes = false then .ret t else if candsT g L t d = [] then levelsT g L f t (d + 1) else
   ((minT (minM (candsT g L t d) 2 + 1) (candsT g L t d) 2).via (standT g L t (candsT g L t d))).bind fun s => levelsT g L f (standT g L t (candsT g L t d) s) (d + 1)
def sizeAt (g : List Ru) (t : T) (a : Nat) : Nat := ((spotsT g t slot0 1)[a]?.map Sp.size).getD 0
def hoistsT (g : List Ru) : Nat → T → Nat → Nat → Tr T Int T
 | 0, t, _, _ => .ret t
 | f + 1, t, a, b => if a < t.nodes then (if b < a + sizeAt g t a then (match hoistOf g t a b with
   | none => hoistsT g f t a (b + 1)
   | some x => .ask x fun v => if v = 2 then hoistsT g f x a (a + 1) else hoistsT g f t a (b + 1)) else hoistsT g f t (a + 1) (a + 2)) else .ret t
def hoM (t : T) (a b : Nat) : Nat := t.nodes * 4000000 + (t.nodes - a) * 2000 + (t.nodes + 2 - b)
def roundsT (g : List Ru) (L : List Int) : Nat → T → Tr T Int (Int × T)
 | 0, t => .ret (0, t)
 | f + 1, t => (levelsT g L (t.nodes + 1) t 2).bind fun t1 => (hoistsT g (hoM t1 0 1 + 1) t1 0 1).bind fun t2 => if t.nodes ≤ t2.nodes then .ret (0, t2) else roundsT g L f t2
def treeT (g : List Ru) (L : List Int) (t : T) : Tr T Int (Int × T) := .ask t fun v => if v = 2 then roundsT g L (t.nodes + 1) t else .ret (7, t)
section
variable {L : List Int} {d : Int} {l : List Sp} {k : Nat} {p : Sp}
theorem candIx_yes (h : candAt L d l k = true) : candIx L d l (k + 1) = candIx L d l k ++ [(k : Int)] := by unfold candIx; rw [List.range_succ]; simp [h]
theorem candIx_no (h : candAt L d l k = false) : candIx L d l (k + 1) = candIx L d l k := by unfold candIx; rw [List.range_succ]; simp [h]
theorem candIx_le (L : List Int) (d : Int) (l : List Sp) (k : Nat) : (candIx L d l k).length ≤ k := by
 unfold candIx
 rw [List.length_map]
 exact Nat.le_trans (List.length_filter_le _ _) (by simp)
theorem candAt_is (h : l[k]? = some p) : candAt L d l k = (decide (p.depth = d) && prunB L p) := by simp [candAt, h]
theorem anyAt_next (h : l[k]? = some p) : anyAt d l (k + 1) = (anyAt d l k || decide (p.depth = d)) := by
 unfold anyAt
 rw [List.take_add_one, h]
 simp
theorem cand_mem {x : Int} (h : x ∈ candIx L d l k) : ∃ (i : Nat) (p : Sp), x = i ∧ i < k ∧ l[i]? = some p ∧ p.depth = d ∧ prunB L p = true := by
 unfold candIx at h
 obtain ⟨i, hi, rfl⟩ := List.mem_map.1 h
 obtain ⟨h1, h2⟩ := List.mem_filter.1 hi
 unfold candAt at h2
 rcases hp : l[i]? with _ | p
 ·rw [hp] at h2; simp at h2
 ·rw [hp] at h2
  simp at h2
  exact ⟨i, p, rfl, by simpa using h1, hp, h2.1, h2.2⟩
theorem cand_in {i : Nat} (hi : i < k) (h : l[i]? = some p) (hd : p.depth = d) (hb : prunB L p = true) : (i : Int) ∈ candIx L d l k := by
 unfold candIx
 refine List.mem_map.2 ⟨i, List.mem_filter.2 ⟨by simpa using hi, ?_⟩, rfl⟩
 rw [candAt_is h]
 simp [hd, hb]
theorem cand_set (L : List Int) (d : Int) (l : List Sp) (k : Nat) : isSet k (candIx L d l k) = true := by
 refine isSet_iff.2 ⟨fun x hx => ?_, ?_⟩
 ·obtain ⟨i, p, rfl, h, _⟩ := cand_mem hx
  omega
 ·unfold candIx
  refine List.Pairwise.map _ (fun a b (h : a < b) => by omega) (List.Pairwise.filter _ List.pairwise_lt_range)
end
section
variable {g : List Ru} {L : List Int} {t : T} {f d a b : Nat}
theorem cands_can (h2 : 2 ≤ d) (s : List Int) : CanAll g L t (minus (candsT g L t d) s) := fun x hx => by
 obtain ⟨i, p, rfl, h, h3, h4, h5⟩ := cand_mem (List.mem_filter.1 hx).1
 refine ⟨i, p, rfl, ?_, h3, h5⟩
 rcases Nat.eq_zero_or_pos i with rfl | h0
 ·rw [spotsT_eq] at h3
  obtain rfl := Option.some.inj h3
  have : (1 : Int) = d := h4
  omega
 ·exact h0
theorem lev_end (h : anyAt d (spotsT g t slot0 1) t.nodes = false) : levelsT g L f t d = .ret t := by
 cases f with
 | zero => rfl
 | succ f => exact if_pos h
theorem lev_skip (h : anyAt d (spotsT g t slot0 1) t.nodes = true) (hc : candsT g L t d = []) : levelsT g L (f + 1) t d = levelsT g L f t (d + 1) := by
 rw [levelsT, if_neg (by simp [h]), if_pos hc]
theorem lev_min (h : anyAt d (spotsT g t slot0 1) t.nodes = true) (hc : candsT g L t d ≠ []) : levelsT g L (f + 1) t d =
  ((minT (minM (candsT g L t d) 2 + 1) (candsT g L t d) 2).via (standT g L t (candsT g L t d))).bind fun s => levelsT g L f (standT g L t (candsT g L t d) s) (d + 1) := by
 rw [levelsT, if_neg (by simp [h]), if_neg hc]
theorem any_depth (hv : Val g t) (h : anyAt d (spotsT g t slot0 1) t.nodes = true) : d ≤ t.nodes := by
 unfold anyAt at h
 obtain ⟨p, hp, h1⟩ := List.any_eq_true.1 h
 have := spot_depth t hv slot0 1 p (List.mem_of_mem_take hp)
 have h2 : p.depth = d := by simpa using h1
 omega
theorem ho_end (h : ¬ a < t.nodes) : hoistsT g (f + 1) t a b = .ret t := if_neg h
theorem ho_out (h : a < t.nodes) (h2 : ¬ b < a + sizeAt g t a) : hoistsT g (f + 1) t a b = hoistsT g f t (a + 1) (a + 2) := by rw [hoistsT, if_pos h, if_neg h2]
theorem ho_no (h : a < t.nodes) (h2 : b < a + sizeAt g t a) (h3 : hoistOf g t a b = none) : hoistsT g (f + 1) t a b = hoistsT g f t a (b + 1) := by rw [hoistsT, if_pos h, if_pos h2, h3]
theorem ho_ask {x : T} (h : a < t.nodes) (h2 : b < a + sizeAt g t a) (h3 : hoistOf g t a b = some x) : hoistsT g (f + 1) t a b = .ask x fun v => if v = 2 then hoistsT g f x a (a + 1) else hoistsT g f t a (b + 1) := by rw [hoistsT, if_pos h, if_pos h2, h3]
theorem size_at {p : Sp} (h : (spotsT g t slot0 1)[a]? = some p) : sizeAt g t a = p.size := by unfold sizeAt; rw [h]; rfl
theorem size_le (hv : Val g t) (h : a < t.nodes) : a + sizeAt g t a ≤ t.nodes := by
 have hl := spots_len t hv slot0 1
 have hp := List.getElem?_eq_getElem (l := spotsT g t slot0 1) (i := a) (by omega)
 rw [size_at hp]
 exact (spots_in t hv slot0 1 a _ hp).2.2
end
structure TOk (g : List Ru) (N : Nat) (t : T) : Prop where
 val : Val g t
 few : t.nodes ≤ N
section
variable {g : List Ru} {L : List Int} {N : Nat}
structure GOk (g : List Ru) (L : List Int) : Prop where
 ro : RulesOk g
 lok : LOk g L
 le : ∀ k : Nat, k < g.length → getI L k ≤ 1024
 ne : g ≠ []
 g32 : g.length ≤ 32
theorem TOk.stand {t : T} {d : Nat} (h : TOk g N t) (G : GOk g L) (h2 : 2 ≤ d) (s : List Int) : TOk g N (standT g L t (candsT g L t d) s) := by
 obtain ⟨h1, h3, _⟩ := pruned_ok G.ro G.lok G.le h.val (cands_can (g := g) (L := L) (t := t) h2 s)
 exact ⟨h1, Nat.le_trans h3 h.few⟩
theorem TOk.hoist {t x : T} {a b : Int} (h : TOk g N t) (hx : hoistOf g t a b = some x) : TOk g N x := by
 obtain ⟨h1, h2⟩ := hoist_ok h.val hx
 exact ⟨h1, by have := h.few; omega⟩
theorem levelsT_all (G : GOk g L) : ∀ (f : Nat) (t : T) (d : Nat), TOk g N t → 2 ≤ d → (levelsT g L f t d).All (TOk g N) ∧ (levelsT g L f t d).Ends (TOk g N)
  | 0, t, d, h, _ => ⟨trivial, h⟩
  | f + 1, t, d, h, h2 => by
    rcases ha : anyAt d (spotsT g t slot0 1) t.nodes with _ | _
    · rw [lev_end ha]; exact ⟨trivial, h⟩
    · by_cases hc : candsT g L t d = []
      · rw [lev_skip ha hc]; exact levelsT_all G f t (d + 1) h (by omega)
      · rw [lev_min ha hc]
        have hst := fun s => h.stand (L := L) G h2 s
        exact ⟨Tr.all_bind (E := fun _ => True) (Tr.all_via hst _) (Tr.ends_all (fun _ => trivial) _) fun s _ => (levelsT_all G f _ (d + 1) (hst s) (by omega)).1,
          Tr.ends_bind (E := fun _ => True) (Tr.ends_all (fun _ => trivial) _) fun s _ => (levelsT_all G f _ (d + 1) (hst s) (by omega)).2⟩
theorem hoistsT_all : ∀ (f : Nat) (t : T) (a b : Nat), TOk g N t → (hoistsT g f t a b).All (TOk g N) ∧ (hoistsT g f t a b).Ends (TOk g N)
  | 0, t, a, b, h => ⟨trivial, h⟩
  | f + 1, t, a, b, h => by
    by_cases h1 : a < t.nodes
    · by_cases h2 : b < a + sizeAt g t a
      · rcases h3 : hoistOf g t a b with _ | x
        · rw [ho_no h1 h2 h3]; exact hoistsT_all f t a (b + 1) h
        · rw [ho_ask h1 h2 h3]
          have hx := h.hoist h3
          refine ⟨⟨hx, fun v => ?_⟩, fun v => ?_⟩
          · show Tr.All _ (if v = 2 then _ else _)
            split
            · exact (hoistsT_all f x a (a + 1) hx).1
            · exact (hoistsT_all f t a (b + 1) h).1
          · show Tr.Ends _ (if v = 2 then _ else _)
            split
            · exact (hoistsT_all f x a (a + 1) hx).2
            · exact (hoistsT_all f t a (b + 1) h).2
      · rw [ho_out h1 h2]; exact hoistsT_all f t (a + 1) (a + 2) h
    · rw [ho_end h1]; exact ⟨trivial, h⟩
theorem roundsT_all (G : GOk g L) : ∀ (f : Nat) (t : T), TOk g N t → (roundsT g L f t).All (TOk g N) ∧ (roundsT g L f t).Ends fun r => TOk g N r.2
  | 0, t, h => ⟨trivial, h⟩
  | f + 1, t, h => by
    have h1 := levelsT_all (N := N) G (t.nodes + 1) t 2 h (by omega)
    have h2 : ∀ t1, TOk g N t1 → ∀ t2, TOk g N t2 → Tr.All (TOk g N) (if t.nodes ≤ t2.nodes then .ret (0, t2) else roundsT g L f t2) ∧ Tr.Ends (fun r => TOk g N r.2) (if t.nodes ≤ t2.nodes then .ret (0, t2) else roundsT g L f t2) := fun t1 _ t2 ht2 => by
      split
      · exact ⟨trivial, ht2⟩
      · exact roundsT_all G f t2 ht2
    exact ⟨Tr.all_bind h1.1 h1.2 fun t1 ht1 => Tr.all_bind (hoistsT_all _ t1 0 1 ht1).1 (hoistsT_all _ t1 0 1 ht1).2 fun t2 ht2 => (h2 t1 ht1 t2 ht2).1,
      Tr.ends_bind h1.2 fun t1 ht1 => Tr.ends_bind (hoistsT_all _ t1 0 1 ht1).2 fun t2 ht2 => (h2 t1 ht1 t2 ht2).2⟩
theorem treeT_all (G : GOk g L) {t : T} (h : TOk g N t) : (treeT g L t).All (TOk g N) := by
 refine ⟨h, fun v => ?_⟩
 show Tr.All _ (if v = 2 then _ else _)
 split
 ·exact (roundsT_all G _ t h).1
 ·trivial
end
end

/- How many questions a search asks; those of minimal: plain. -/
section
open Go.RowKit
namespace Tr
section
variable {Q Q' A α β : Type}
def len (o : Q → A) : Tr Q A α → Nat
 | .ret _ => 0
 | .ask q k => 1 + (k (o q)).len o
theorem len_bind (o : Q → A) (f : α → Tr Q A β) : ∀ t : Tr Q A α, (t.bind f).len o = t.len o + (f (t.res o)).len o
  | .ret a => by show (f a).len o = 0 + (f a).len o; omega
  | .ask q k => by
    show 1 + ((k (o q)).bind f).len o = 1 + (k (o q)).len o + (f ((k (o q)).res o)).len o
    rw [len_bind o f (k (o q))]
    omega
theorem res_bind (o : Q → A) (f : α → Tr Q A β) : ∀ t : Tr Q A α, (t.bind f).res o = (f (t.res o)).res o
 | .ret a => rfl
 | .ask q k => res_bind o f (k (o q))
theorem len_via (o : Q' → A) (φ : Q → Q') : ∀ t : Tr Q A α, (t.via φ).len o = t.len fun q => o (φ q)
  | .ret a => rfl
  | .ask q k => by
    show 1 + ((k (o (φ q))).via φ).len o = 1 + (k (o (φ q))).len fun q => o (φ q)
    rw [len_via o φ (k (o (φ q)))]
theorem res_via (o : Q' → A) (φ : Q → Q') : ∀ t : Tr Q A α, (t.via φ).res o = t.res fun q => o (φ q)
 | .ret a => rfl
 | .ask q k => res_via o φ (k (o (φ q)))
end
end Tr
def uTab : List (List Nat) := [[0, 0, 0, 0, 0, 0, 0, 0, 0, 0, 0, 0, 0, 0], [0, 0, 1, 1, 1, 1, 1, 1, 1, 1, 1, 1, 1, 1], [0, 0, 5, 5, 5, 5, 5, 5, 5, 5, 5, 5, 5, 5], [0, 0, 15, 11, 11, 11, 11, 11, 11, 11, 11, 11, 11, 11], [0, 0, 23, 25, 19, 19, 19, 19, 19, 19, 19, 19, 19, 19], [0, 0, 41, 35, 37, 29, 29, 29, 29, 29, 29, 29, 29, 29], [0, 0, 53, 47, 49, 51, 41, 41, 41, 41, 41, 41, 41, 41], [0, 0, 67, 73, 63, 65, 67, 55, 55, 55, 55, 55, 55, 55], [0, 0, 83, 89, 79, 81, 83, 85, 71, 71, 71, 71, 71, 71], [0, 0, 117, 107, 113, 99, 101, 103, 105, 89, 89, 89, 89, 89], [0, 0, 137, 127, 133, 119, 121, 123, 125, 127, 109, 109, 109, 109], [0, 0, 159, 149, 155, 161, 143, 145, 147, 149, 151, 131, 131, 131], [0, 0, 183, 173, 179, 185, 167, 169, 171, 173, 175, 177, 155, 155], [0, 0, 209, 223, 205, 211, 217, 195, 197, 199, 201, 203, 205, 181]]
def uN (m g : Nat) : Nat := (uTab.getD m []).getD g 0
def zTab : List (List Nat) := [[0, 0, 0, 0, 0, 0, 0, 0, 0, 0, 0, 0, 0, 0], [0, 0, 1, 1, 1, 1, 1, 1, 1, 1, 1, 1, 1, 1], [0, 0, 4, 4, 4, 4, 4, 4, 4, 4, 4, 4, 4, 4], [0, 0, 10, 6, 6, 6, 6, 6, 6, 6, 6, 6, 6, 6], [0, 0, 12, 14, 8, 8, 8, 8, 8, 8, 8, 8, 8, 8], [0, 0, 22, 16, 18, 10, 10, 10, 10, 10, 10, 10, 10, 10], [0, 0, 24, 18, 20, 22, 12, 12, 12, 12, 12, 12, 12, 12], [0, 0, 26, 32, 22, 24, 26, 14, 14, 14, 14, 14, 14, 14], [0, 0, 28, 34, 24, 26, 28, 30, 16, 16, 16, 16, 16, 16], [0, 0, 46, 36, 42, 28, 30, 32, 34, 18, 18, 18, 18, 18], [0, 0, 48, 38, 44, 30, 32, 34, 36, 38, 20, 20, 20, 20], [0, 0, 50, 40, 46, 52, 34, 36, 38, 40, 42, 22, 22, 22], [0, 0, 52, 42, 48, 54, 36, 38, 40, 42, 44, 46, 24, 24], [0, 0, 54, 68, 50, 56, 62, 40, 42, 44, 46, 48, 50, 26]]
def zN (m g : Nat) : Nat := (zTab.getD m []).getD g 0
def uOk (m g : Nat) : Bool :=
 if m < 2 then decide (m ≤ uN m g) && decide (m ≤ zN m g) else
  (List.range (min g m)).all (fun i => decide (i + 1 + uN ((i + 1) * m / min g m - i * m / min g m) 2 ≤ uN m g) && decide (min g m + (i + 1) + uN (m - ((i + 1) * m / min g m - i * m / min g m)) (max (g - 1) 2) ≤ uN m g)) &&
   decide (min g m + (min g m + (if m ≤ g then 0 else uN m (min (2 * g) m))) ≤ uN m g) && decide (min g m + (min g m + (if m ≤ g then 0 else zN m (min (2 * g) m))) ≤ zN m g)
theorem u_all : ((List.range 14).all fun m => (List.range 14).all fun g => decide (g < 2) || uOk m g) = true := by decide +kernel
theorem u_ok {m g : Nat} (hm : m ≤ 13) (h2 : 2 ≤ g) (hg : g ≤ 13) : uOk m g = true := by
 have h1 := List.all_eq_true.1 (List.all_eq_true.1 u_all m (by simp; omega)) g (by simp; omega)
 simpa [show ¬ g < 2 by omega] using h1
theorem z_le : ((List.range 14).all fun m => decide (zN m 2 ≤ 6 * m)) = true := by decide +kernel
theorem filt_add {β : Type} (p : β → Bool) : ∀ l : List β, (l.filter p).length + (l.filter fun x => !p x).length = l.length
  | [] => rfl
  | x :: l => by
    have := filt_add p l
    rcases h : p x with _ | _ <;> simp [h] <;> omega
theorem minus_len_eq {xs ys : List Int} (hn : xs.Nodup) (hs : ys.Sublist xs) : (minus xs ys).length = xs.length - ys.length := by
 have h1 : (xs.filter fun x => decide (x ∈ ys)).length = ys.length := by
  refine Nat.le_antisymm ?_ ?_
  ·exact nodup_sub_len' (hn.sublist List.filter_sublist) fun x hx => by simpa using (List.mem_filter.1 hx).2
  ·exact nodup_sub_len' (hn.sublist hs) fun x hx => List.mem_filter.2 ⟨hs.subset hx, by simpa using hx⟩
 have h2 := filt_add (fun x => decide (x ∈ ys)) xs
 have h3 : minus xs ys = xs.filter fun x => !decide (x ∈ ys) := by
  unfold minus
  exact List.filter_congr fun x _ => by simp
 rw [h3]
 omega
section
variable {α : Type} {f : List Int → Tr (List Int) Int α} {d : Tr (List Int) Int α}
theorem scan_len (o : List Int → Int) : ∀ qs : List (List Int), (∃ i q, qs[i]? = some q ∧ o q = 2 ∧ (scanT f d qs).len o = i + 1 + (f q).len o ∧ (scanT f d qs).res o = (f q).res o) ∨ ((∀ q ∈ qs, o q ≠ 2) ∧ (scanT f d qs).len o = qs.length + d.len o ∧ (scanT f d qs).res o = d.res o)
  | [] => .inr ⟨by simp, by simp [scanT], rfl⟩
  | q :: qs => by
    have e1 : (scanT f d (q :: qs)).len o = 1 + (if o q = 2 then f q else scanT f d qs).len o := rfl
    have e2 : (scanT f d (q :: qs)).res o = (if o q = 2 then f q else scanT f d qs).res o := rfl
    by_cases h : o q = 2
    · rw [if_pos h] at e1 e2
      exact .inl ⟨0, q, rfl, h, by omega, e2⟩
    · rw [if_neg h] at e1 e2
      rcases scan_len o qs with ⟨i, q', h1, h2, h3, h4⟩ | ⟨h1, h2, h3⟩
      · exact .inl ⟨i + 1, q', by simpa using h1, h2, by omega, by rw [e2, h4]⟩
      · refine .inr ⟨fun x hx => ?_, by rw [e1, h2, List.length_cons]; omega, by rw [e2, h3]⟩
        rcases List.mem_cons.1 hx with rfl | hx
        · exact h
        · exact h1 x hx
end
theorem minFin_len (o : List Int → Int) (c : List Int) : (minFin c).len o = (if c.length = 1 then 1 else 0) ∧ ((minFin c).res o).Sublist c := by
 unfold minFin
 split
 ·refine ⟨rfl, ?_⟩
  show (if o [] = 2 then [] else c).Sublist c
  split
  ·exact List.nil_sublist _
  ·exact List.Sublist.refl _
 ·exact ⟨rfl, List.Sublist.refl _⟩
theorem set_nodup {n : Int} {c : List Int} (h : isSet n c = true) : c.Nodup := (isSet_iff.1 h).2.imp fun hlt he => by omega
theorem min_len (o : List Int → Int) {n : Nat} (f : Nat) : ∀ (c : List Int) (g : Nat), isSet n c = true → 2 ≤ g → g ≤ 13 → c.length ≤ 13 →
    (minT f c g).len o ≤ uN c.length g ∧ ((minT f c g).res o).Sublist c ∧ ((minT f c g).res o = c → (minT f c g).len o ≤ zN c.length g) := by
  induction f with
  | zero => intro c g _ _ _ _; exact ⟨Nat.zero_le _, List.Sublist.refl _, fun _ => Nat.zero_le _⟩
  | succ f ih =>
    intro c g hs h2 hg hl
    have hu := u_ok hl h2 hg
    unfold uOk at hu
    by_cases hc : 2 ≤ c.length
    · rw [if_neg (by omega)] at hu
      simp only [Bool.and_eq_true, decide_eq_true_eq, List.all_eq_true] at hu
      obtain ⟨⟨hu1, hu2⟩, hu3⟩ := hu
      have hN : cutN c.length (g : Int) = min g c.length := by unfold cutN; omega
      rw [minT_two hc]
      rcases scan_len (f := fun x => minT f x 2) (d := scanT (fun x => minT f x (max (g - 1) 2)) (if c.length ≤ g then minFin c else minT f c (min (2 * g) c.length)) ((chunksOf c g).map (minus c))) o (chunksOf c g) with ⟨i, q, hq, _, e1, e2⟩ | ⟨_, e1, e2⟩
      · rw [e1, e2]
        have hi : i < cutN c.length (g : Int) := by
          have := (List.getElem?_eq_some_iff.1 hq).1
          rwa [chunksOf_length] at this
        obtain rfl : q = chunkOf c (cutN c.length g) i := by rw [chunk_get hi] at hq; exact (Option.some.inj hq).symm
        have hk : (chunkOf c (cutN c.length g) i).length = (i + 1) * c.length / min g c.length - i * c.length / min g c.length := by rw [chunkOf_length hi, hN]
        have hsub := chunkOf_sub c (cutN c.length g) i
        have hlt := (chunk_len (cutN_ge h2 hc) (cutN_le _ _) hi).2
        obtain ⟨i1, i2, _⟩ := ih _ 2 (isSet_sub hs hsub) (Nat.le_refl _) (by omega) (by omega)
        have := (hu1 i (by simp; omega)).1
        rw [hk] at i1
        exact ⟨by omega, i2.trans hsub, fun he => by have := i2.length_le; rw [he] at this; omega⟩
      · rw [e1, e2, chunksOf_length]
        rcases scan_len (f := fun x => minT f x (max (g - 1) 2)) (d := if c.length ≤ g then minFin c else minT f c (min (2 * g) c.length)) o ((chunksOf c g).map (minus c)) with ⟨i, q, hq, _, e3, e4⟩ | ⟨_, e3, e4⟩
        · rw [e3, e4]
          have hi : i < cutN c.length (g : Int) := by
            have := (List.getElem?_eq_some_iff.1 hq).1
            rwa [List.length_map, chunksOf_length] at this
          obtain rfl : q = minus c (chunkOf c (cutN c.length g) i) := by rw [rest_get hi] at hq; exact (Option.some.inj hq).symm
          have hk : (chunkOf c (cutN c.length g) i).length = (i + 1) * c.length / min g c.length - i * c.length / min g c.length := by rw [chunkOf_length hi, hN]
          have hsub := chunkOf_sub c (cutN c.length g) i
          have hlt := chunk_len (cutN_ge h2 hc) (cutN_le _ _) hi
          have hml := minus_len_eq (set_nodup hs) hsub
          obtain ⟨i1, i2, _⟩ := ih _ (max (g - 1) 2) (isSet_minus hs (chunkOf c (cutN c.length g) i)) (by omega) (by omega) (by omega)
          have := (hu1 i (by simp; omega)).2
          have hmm : (minus c (chunkOf c (cutN c.length g) i)).Sublist c := List.filter_sublist
          have hm2 := hml
          rw [hk] at hm2
          rw [hm2] at i1
          exact ⟨by omega, i2.trans hmm, fun he => by have := i2.length_le; rw [he] at this; omega⟩
        · rw [e3, e4, List.length_map, chunksOf_length, hN]
          by_cases hge : c.length ≤ g
          · rw [if_pos hge] at hu2 hu3 ⊢
            obtain ⟨f1, f2⟩ := minFin_len o c
            rw [if_neg (by omega)] at f1
            exact ⟨by omega, f2, fun _ => by omega⟩
          · rw [if_neg hge] at hu2 hu3 ⊢
            obtain ⟨i1, i2, i3⟩ := ih c (min (2 * g) c.length) hs (by omega) (by omega) hl
            exact ⟨by omega, i2, fun he => by have := i3 he; omega⟩
    · rw [if_pos (by omega)] at hu
      simp only [Bool.and_eq_true, decide_eq_true_eq] at hu
      rw [minT_le1 hc]
      obtain ⟨f1, f2⟩ := minFin_len o c
      have : (if c.length = 1 then 1 else 0) ≤ c.length := by split <;> omega
      exact ⟨by omega, f2, fun _ => by omega⟩
end

/- What the parts of Tree come to, and how many questions they ask: plain. -/
section
open Go.RowKit
section
variable {g : List Ru} {L : List Int}
theorem ed_id_row {dec : Dec} (s : Sl) : ∀ (q : List T) (st : List T × Nat), (∀ x ∈ q, ∀ n, nodeE g dec x s n = ([x], n + x.nodes)) → (q.foldl (edX g dec s) st).1 = st.1 ++ q
  | [], st, _ => by simp
  | x :: q, st, h => by
    rw [List.foldl_cons, ed_id_row s q _ fun y hy => h y (by simp [hy])]
    unfold edX
    rw [h x (by simp)]
    simp
theorem ed_id_rows {dec : Dec} : ∀ (S : List Sl) (Q : List (List T)) (st : List (List T) × Nat), S.length = Q.length → (∀ q ∈ Q, ∀ x ∈ q, ∀ s n, nodeE g dec x s n = ([x], n + x.nodes)) → ((S.zip Q).foldl (edP g dec) st).1 = st.1 ++ Q
  | [], Q, st, hl, _ => by
    have : Q = [] := List.eq_nil_of_length_eq_zero hl.symm
    subst this
    simp
  | s :: S, Q, st, hl, h => by
    cases Q with
    | nil => simp at hl
    | cons q Q =>
      rw [List.zip_cons_cons, List.foldl_cons, ed_id_rows S Q _ (by simpa using hl) fun p hp => h p (by simp [hp])]
      unfold edP
      rw [ed_id_row s q ([], st.2) fun x hx n => h q (by simp) x hx s n]
      simp
theorem nodeE_id {dec : Dec} (hd : ∀ n s, dec n s = none) (t : T) : Val g t → ∀ (s : Sl) (n : Nat), nodeE g dec t s n = ([t], n + t.nodes) := by
  induction t using T.ind with
  | h t ih =>
    intro hv s n
    obtain ⟨r, hr, _, hlen, _, _, hsub⟩ := val_parts hv
    have h2 := nodeE_snd (g := g) (dec := dec) t hv s n
    have h1 : (nodeE g dec t s n).1 = [t] := by
      rw [nodeE_none (hd n s) hr, ed_id_rows r.slots t.slots _ hlen.symm fun q hq x hx s n => ih q hq x hx (hsub q hq x hx) s n]
      cases t
      rfl
    rw [← h1, ← h2]
theorem pruned_nil {t : T} (hv : Val g t) : prunedT g L [] t = t := by
 unfold prunedT
 rw [nodeE_id (fun n s => by unfold decP; rw [if_neg (by simp)]) t hv]
 rfl
theorem minus_all (c : List Int) : minus c c = [] := by
 unfold minus
 rw [List.filter_eq_nil_iff]
 intro x hx
 simpa using hx
theorem minus_one {c : List Int} (hn : c.Nodup) {x : Int} (hx : x ∈ c) : minus c (minus c [x]) = [x] := by
 have h1 : minus c (minus c [x]) = c.filter fun y => decide (y = x) := by
  unfold minus
  refine List.filter_congr fun y hy => ?_
  by_cases h : y = x <;> simp [h, hy, hx]
 rw [h1]
 obtain ⟨a, b, rfl⟩ := List.append_of_mem hx
 rw [List.nodup_append] at hn
 obtain ⟨_, hb, hab⟩ := hn
 obtain ⟨hxb, _⟩ := List.nodup_cons.1 hb
 rw [List.filter_append, List.filter_cons]
 have h2 : a.filter (fun y => decide (y = x)) = [] := by
  rw [List.filter_eq_nil_iff]
  intro y hy
  have := hab y hy x (by simp)
  simpa using this
 have h3 : b.filter (fun y => decide (y = x)) = [] := by
  rw [List.filter_eq_nil_iff]
  intro y hy
  simp
  rintro rfl
  exact hxb hy
 simp [h2, h3]
theorem minus_some {c s : List Int} (hn : c.Nodup) (hs : s.Sublist c) (h : s ≠ c) : minus c s ≠ [] := fun he => by
 have h1 := minus_len_eq hn hs
 rw [he] at h1
 have h2 := hs.length_le
 simp at h1
 exact h (hs.eq_of_length (by omega))
theorem spots_contig (t : T) : Val g t → ∀ (s : Sl) (d : Int) (p : Sp), p ∈ spotsT g t s d → ∀ e, d ≤ e → e ≤ p.depth → ∃ p' ∈ spotsT g t s d, p'.depth = e := by
  induction t using T.ind with
  | h t ih =>
    intro hv s d p hp e h1 h2
    obtain ⟨r, hr, _, hlen, _, _, hsub⟩ := val_parts hv
    rw [spotsT_eq, restT_eq hr] at hp ⊢
    by_cases he : e = d
    · exact ⟨⟨t, s, d, _⟩, List.mem_cons_self .., he.symm⟩
    · rcases List.mem_cons.1 hp with rfl | hp
      · have h2 : e ≤ d := h2
        omega
      · obtain ⟨j, hj⟩ := List.getElem?_of_mem hp
        obtain ⟨z, hz, x, hx, o, h3, h4, h5⟩ := seg_rows d (r.slots.zip t.slots) [] j (Nat.zero_le _) (List.getElem?_eq_some_iff.1 hj).1
        have hz2 : z.2 ∈ t.slots := (List.of_mem_zip hz).2
        obtain ⟨j2, rfl⟩ : ∃ j2, j = o + j2 := ⟨j - o, by omega⟩
        have hp2 : p ∈ spotsT g x z.1 (d + 1) := List.mem_of_getElem? (by rw [← h5 j2 (by omega)]; exact hj)
        obtain ⟨p', hp', hpe⟩ := ih _ hz2 x hx (hsub _ hz2 x hx) z.1 (d + 1) p hp2 e (by omega) h2
        obtain ⟨i, hi⟩ := List.getElem?_of_mem hp'
        refine ⟨p', List.mem_cons_of_mem _ (List.mem_of_getElem? (i := o + i) ?_), hpe⟩
        rw [h5 i (List.getElem?_eq_some_iff.1 hi).1]
        exact hi
def remAt (g : List Ru) (t : T) (d : Int) : Nat := ((spotsT g t slot0 1).filter fun p => decide (d ≤ p.depth)).length
theorem cand_count (L : List Int) (d : Int) (l : List Sp) : ∀ k, (candIx L d l k).length ≤ ((l.take k).filter fun p => decide (p.depth = d)).length
  | 0 => by simp [candIx]
  | k + 1 => by
    have h := cand_count L d l k
    rcases hp : l[k]? with _ | p
    · have h1 : candAt L d l k = false := by simp [candAt, hp]
      rw [candIx_no h1, List.take_add_one, hp]
      simpa using h
    · rw [List.take_add_one, hp, Option.toList_some, List.filter_append, List.length_append]
      rcases hc : candAt L d l k with _ | _
      · rw [candIx_no hc]
        omega
      · rw [candIx_yes hc, List.length_append]
        rw [candAt_is hp] at hc
        have hd : p.depth = d := by
          have := (Bool.and_eq_true_iff.1 hc).1
          simpa using this
        simp [hd]
        omega
theorem filter_split (d : Int) : ∀ l : List Sp, (l.filter fun p => decide (d ≤ p.depth)).length = (l.filter fun p => decide (p.depth = d)).length + (l.filter fun p => decide (d + 1 ≤ p.depth)).length
  | [] => rfl
  | p :: l => by
    have := filter_split d l
    rw [List.filter_cons, List.filter_cons, List.filter_cons]
    by_cases h1 : p.depth = d
    · rw [if_pos (by simp; omega), if_pos (by simpa using h1), if_neg (by simp; omega)]
      simp only [List.length_cons]
      omega
    · by_cases h2 : d ≤ p.depth
      · rw [if_pos (by simpa using h2), if_neg (by simpa using h1), if_pos (by simp; omega)]
        simp only [List.length_cons]
        omega
      · rw [if_neg (by simpa using h2), if_neg (by simpa using h1), if_neg (by simp; omega)]
        exact this
theorem rem_step {t : T} (hv : Val g t) (d : Nat) : (candsT g L t d).length + remAt g t ((d + 1 : Nat) : Int) ≤ remAt g t d := by
 have h1 := cand_count L d (spotsT g t slot0 1) t.nodes
 rw [List.take_of_length_le (by rw [spots_len t hv]; exact Nat.le_refl _)] at h1
 have h2 := filter_split d (spotsT g t slot0 1)
 unfold remAt
 rw [show ((d + 1 : Nat) : Int) = (d : Int) + 1 by omega]
 unfold candsT
 omega
theorem rem_le {t : T} (hv : Val g t) (d : Nat) (h2 : 2 ≤ d) : remAt g t d + 1 ≤ t.nodes := by
 have hl := spots_len t hv slot0 1
 unfold remAt
 rw [spotsT_eq] at hl ⊢
 rw [List.filter_cons, if_neg (by show ¬ decide ((d : Int) ≤ 1) = true; simp; omega)]
 have := List.length_filter_le (fun p : Sp => decide ((d : Int) ≤ p.depth)) (restT g t 1)
 rw [List.length_cons] at hl
 omega
end
def tri : Nat → Nat
 | 0 => 0
 | n + 1 => n + tri n
theorem tri_mono {a b : Nat} (h : a ≤ b) : tri a ≤ tri b := by
  induction b with
  | zero => obtain rfl : a = 0 := by omega
            exact Nat.le_refl _
  | succ b ih =>
    by_cases he : a = b + 1
    · rw [he]; exact Nat.le_refl _
    · have := ih (by omega)
      show tri a ≤ b + tri b
      omega
def sumV : Nat → Nat
 | 0 => 0
 | n + 1 => uN n 2 + 6 * n + sumV n
def sumH : Nat → Nat
 | 0 => 0
 | n + 1 => tri (n + 1) + sumH n
def sumK : Nat → Nat
 | 0 => 0
 | n + 1 => 6 * n + tri (n + 1) + sumK n
theorem sumV_drop {a b : Nat} (h : a < b) : sumV a + uN (b - 1) 2 + 6 * (b - 1) ≤ sumV b := by
  induction b with
  | zero => omega
  | succ b ih =>
    show _ ≤ uN b 2 + 6 * b + sumV b
    rw [Nat.add_sub_cancel]
    by_cases he : a = b
    · subst he; omega
    · have := ih (by omega)
      omega
theorem sumV_mono {a b : Nat} (h : a ≤ b) : sumV a ≤ sumV b := by
 rcases Nat.eq_or_lt_of_le h with rfl | h
 ·exact Nat.le_refl _
 ·have := sumV_drop h; omega
theorem sumH_drop {a b : Nat} (h : a < b) : sumH a + tri b ≤ sumH b := by
  induction b with
  | zero => omega
  | succ b ih =>
    show _ ≤ tri (b + 1) + sumH b
    by_cases he : a = b
    · subst he; omega
    · have := ih (by omega)
      omega
theorem sumH_mono {a b : Nat} (h : a ≤ b) : sumH a ≤ sumH b := by
 rcases Nat.eq_or_lt_of_le h with rfl | h
 ·exact Nat.le_refl _
 ·have := sumH_drop h; omega
theorem sumK_drop {a b : Nat} (h : a < b) : sumK a + 6 * (b - 1) + tri b ≤ sumK b := by
  induction b with
  | zero => omega
  | succ b ih =>
    show _ ≤ 6 * b + tri (b + 1) + sumK b
    rw [Nat.add_sub_cancel]
    by_cases he : a = b
    · subst he; omega
    · have := ih (by omega)
      omega
theorem u_mono : ((List.range 14).all fun m => (List.range 14).all fun k => decide (m < k) || decide (uN k 2 ≤ uN m 2)) = true := by decide +kernel
theorem u_le {k m : Nat} (h : k ≤ m) (hm : m ≤ 13) : uN k 2 ≤ uN m 2 := by
 have h1 := List.all_eq_true.1 (List.all_eq_true.1 u_mono m (by simp; omega)) k (by simp; omega)
 simpa [show ¬ m < k by omega] using h1
theorem z_six {m : Nat} (hm : m ≤ 13) : zN m 2 ≤ 6 * m := by simpa using List.all_eq_true.1 z_le m (by simp; omega)
theorem total_14 : sumV 14 + sumH 14 + sumK 14 ≤ 4000 := by decide +kernel
end

/- What Tree comes to: it fails, nothing less does, and few questions are asked: plain. -/
section
open Go.RowKit
theorem hoM_s {t : T} {a b : Nat} (h : b < t.nodes) : hoM t a (b + 1) < hoM t a b := by unfold hoM; omega
theorem hoM_f {t : T} {a b : Nat} (h : a < t.nodes) (hb : b ≤ t.nodes + 1) (hn : t.nodes ≤ 14) : hoM t (a + 1) (a + 2) < hoM t a b := by unfold hoM; omega
theorem hoM_l {t x : T} {a b : Nat} (h : x.nodes < t.nodes) (hn : t.nodes ≤ 14) : hoM x a (a + 1) < hoM t a b := by unfold hoM; omega
section
variable {g : List Ru} {L : List Int} {O : T → Int}
structure LevOk (g : List Ru) (L : List Int) (O : T → Int) (t : T) (d : Nat) (r : T) (len : Nat) : Prop where
 ok : TOk g 14 r
 le : r.nodes ≤ t.nodes
 fails : O r = 2
 few : len + sumV r.nodes ≤ 6 * remAt g t d + sumV t.nodes
 same : r.nodes = t.nodes → r = t ∧ ∀ d' : Nat, d ≤ d' → ∀ x ∈ candsT g L t d', O (prunedT g L [x] t) ≠ 2
theorem lev_ok (G : GOk g L) (f : Nat) : ∀ (t : T) (d : Nat), TOk g 14 t → 2 ≤ d → t.nodes + 2 ≤ f + d → O t = 2 → LevOk g L O t d ((levelsT g L f t d).res O) ((levelsT g L f t d).len O) := by
  induction f with
  | zero =>
    intro t d ht h2 hf ho
    refine ⟨ht, Nat.le_refl _, ho, by show 0 + sumV t.nodes ≤ _; omega, fun _ => ⟨rfl, fun d' hd' x hx => ?_⟩⟩
    obtain ⟨i, p, _, _, hp, hpd, _⟩ := cand_mem hx
    have := spot_depth t ht.val slot0 1 p (List.mem_of_getElem? hp)
    omega
  | succ f ih =>
    intro t d ht h2 hf ho
    rcases ha : anyAt d (spotsT g t slot0 1) t.nodes with _ | _
    · rw [lev_end ha]
      refine ⟨ht, Nat.le_refl _, ho, by show 0 + sumV t.nodes ≤ _; omega, fun _ => ⟨rfl, fun d' hd' x hx => ?_⟩⟩
      obtain ⟨i, p, _, _, hp, hpd, _⟩ := cand_mem hx
      have hpm := List.mem_of_getElem? hp
      obtain ⟨p', hp', hpe⟩ := spots_contig t ht.val slot0 1 p hpm d (by omega) (by omega)
      unfold anyAt at ha
      rw [List.take_of_length_le (by rw [spots_len t ht.val]; exact Nat.le_refl _)] at ha
      have := List.any_eq_false.1 ha p' hp'
      simp [hpe] at this
    · have hrs := rem_step (L := L) ht.val d
      by_cases hc : candsT g L t d = []
      · rw [lev_skip ha hc]
        obtain ⟨h3, h4, h5, h6, h7⟩ := ih t (d + 1) ht (by omega) (by omega) ho
        refine ⟨h3, h4, h5, by omega, fun he => ⟨(h7 he).1, fun d' hd' x hx => ?_⟩⟩
        by_cases hdd : d' = d
        · subst hdd
          rw [hc] at hx
          cases hx
        · exact (h7 he).2 d' (by omega) x hx
      · rw [lev_min ha hc]
        have hn := ht.few
        have hrl := rem_le ht.val d h2
        have hset : isSet t.nodes (candsT g L t d) = true := cand_set L d _ _
        have hcl : (candsT g L t d).length ≤ 13 := by omega
        obtain ⟨m1, m2, m3⟩ := min_len (fun q => O (standT g L t (candsT g L t d) q)) (minM (candsT g L t d) 2 + 1) (candsT g L t d) 2 hset (Nat.le_refl _) (by omega) hcl
        have hst : standT g L t (candsT g L t d) (candsT g L t d) = t := by unfold standT; rw [minus_all]; exact pruned_nil ht.val
        have hmo := minT_ok (fun q => O (standT g L t (candsT g L t d) q)) (minM (candsT g L t d) 2 + 1) (candsT g L t d) 2 hset (Nat.le_refl _) (by omega) (Nat.lt_succ_self _) (by show O (standT g L t (candsT g L t d) (candsT g L t d)) = 2; rw [hst]; exact ho)
        have hnd := set_nodup hset
        rw [Tr.res_bind, Tr.len_bind, Tr.res_via, Tr.len_via]
        generalize hs : (minT (minM (candsT g L t d) 2 + 1) (candsT g L t d) 2).res (fun q => O (standT g L t (candsT g L t d) q)) = s at *
        have hy := ht.stand (L := L) G h2 s
        have hyo : O (standT g L t (candsT g L t d) s) = 2 := hmo.fails
        have hpo := pruned_ok G.ro G.lok G.le ht.val (cands_can (g := g) (L := L) (t := t) h2 s)
        have hyl : (standT g L t (candsT g L t d) s).nodes ≤ t.nodes := hpo.2.1
        obtain ⟨h3, h4, h5, h6, h7⟩ := ih (standT g L t (candsT g L t d) s) (d + 1) hy (by omega) (by omega) hyo
        by_cases hsc : s = candsT g L t d
        · have m3 := m3 hsc
          have hz := z_six hcl
          rw [hsc, hst] at h3 h4 h5 h6 h7 ⊢
          refine ⟨h3, h4, h5, by omega, fun he => ⟨(h7 he).1, fun d' hd' x hx => ?_⟩⟩
          by_cases hdd : d' = d
          · subst hdd
            have := hmo.min x (by rw [hsc]; exact hx)
            rw [hsc] at this
            have e : standT g L t (candsT g L t d') (minus (candsT g L t d') [x]) = prunedT g L [x] t := by unfold standT; rw [minus_one hnd hx]
            rw [e] at this
            exact this
          · exact (h7 he).2 d' (by omega) x hx
        · have hlt : (standT g L t (candsT g L t d) s).nodes < t.nodes := hpo.2.2 (minus_some hnd m2 hsc)
          have hv := sumV_drop hlt
          have hu := u_le (k := (candsT g L t d).length) (m := t.nodes - 1) (by omega) (by omega)
          have hr2 := rem_le hy.val (d + 1) (by omega)
          exact ⟨h3, by omega, h5, by omega, fun he => by omega⟩
structure HoOk (g : List Ru) (O : T → Int) (t : T) (a b : Nat) (r : T) (len : Nat) : Prop where
 ok : TOk g 14 r
 le : r.nodes ≤ t.nodes
 fails : O r = 2
 few : len + sumH r.nodes ≤ (t.nodes - b) + tri (t.nodes - a - 1) + sumH t.nodes
 same : r.nodes = t.nodes → r = t ∧ ∀ (a' b' : Nat) (y : T), (a < a' ∨ (a = a' ∧ b ≤ b')) → hoistOf g t a' b' = some y → O y ≠ 2
theorem hoist_range {t y : T} {a b : Nat} (hv : Val g t) (h : hoistOf g t a b = some y) : a < t.nodes ∧ a < b ∧ b < a + sizeAt g t a := by
 unfold hoistOf at h
 split at h
 ·cases h
 ·rename_i ha
  obtain ⟨p, hp, h⟩ := Option.bind_eq_some_iff.1 h
  rw [Int.toNat_natCast] at hp
  have hsz := size_at hp
  unfold hoistP at h
  split at h
  ·cases h
  ·omega
theorem ho_ok (f : Nat) : ∀ (t : T) (a b : Nat), TOk g 14 t → a < b → b ≤ t.nodes + 1 → a ≤ t.nodes → hoM t a b < f → O t = 2 → HoOk g O t a b ((hoistsT g f t a b).res O) ((hoistsT g f t a b).len O) := by
  induction f with
  | zero => intro t a b _ _ _ _ h; omega
  | succ f ih =>
    intro t a b ht hab hb ha hm ho
    have hn := ht.few
    by_cases h1 : a < t.nodes
    · have hsl := size_le ht.val h1
      by_cases h2 : b < a + sizeAt g t a
      · rcases h3 : hoistOf g t a b with _ | x
        · rw [ho_no h1 h2 h3]
          obtain ⟨i1, i2, i3, i4, i5⟩ := ih t a (b + 1) ht (by omega) (by omega) ha (by have := hoM_s (t := t) (a := a) (b := b) (by omega); omega) ho
          refine ⟨i1, i2, i3, by omega, fun he => ⟨(i5 he).1, fun a' b' y hl hy => ?_⟩⟩
          rcases hl with hl | ⟨rfl, hl⟩
          · exact (i5 he).2 a' b' y (.inl hl) hy
          · by_cases hbb : b = b'
            · subst hbb
              rw [h3] at hy
              cases hy
            · exact (i5 he).2 a b' y (.inr ⟨rfl, by omega⟩) hy
        · rw [ho_ask h1 h2 h3]
          have hx := ht.hoist h3
          have hxn := (hoist_ok ht.val h3).2
          have hxl := hoist_low ht.val h3
          show HoOk g O t a b ((if O x = 2 then hoistsT g f x a (a + 1) else hoistsT g f t a (b + 1)).res O) (1 + (if O x = 2 then hoistsT g f x a (a + 1) else hoistsT g f t a (b + 1)).len O)
          by_cases h4 : O x = 2
          · rw [if_pos h4]
            obtain ⟨i1, i2, i3, i4, i5⟩ := ih x a (a + 1) hx (by omega) (by omega) (by omega) (by have := hoM_l (t := t) (x := x) (a := a) (b := b) hxn hn; omega) h4
            have e1 : (x.nodes - (a + 1)) + tri (x.nodes - a - 1) = tri (x.nodes - a) := by
              obtain ⟨m, hm2⟩ : ∃ m, x.nodes - a = m + 1 := ⟨x.nodes - a - 1, by omega⟩
              rw [show x.nodes - (a + 1) = m by omega, show x.nodes - a - 1 = m by omega, hm2]
              rfl
            have e2 := tri_mono (show x.nodes - a ≤ t.nodes - 1 by omega)
            have e3 : tri t.nodes = (t.nodes - 1) + tri (t.nodes - 1) := by
              obtain ⟨m, hm2⟩ : ∃ m, t.nodes = m + 1 := ⟨t.nodes - 1, by omega⟩
              rw [hm2]
              rfl
            have e4 := sumH_drop hxn
            exact ⟨i1, by omega, i3, by omega, fun he => by omega⟩
          · rw [if_neg h4]
            obtain ⟨i1, i2, i3, i4, i5⟩ := ih t a (b + 1) ht (by omega) (by omega) ha (by have := hoM_s (t := t) (a := a) (b := b) (by omega); omega) ho
            refine ⟨i1, i2, i3, by omega, fun he => ⟨(i5 he).1, fun a' b' y hl hy => ?_⟩⟩
            rcases hl with hl | ⟨rfl, hl⟩
            · exact (i5 he).2 a' b' y (.inl hl) hy
            · by_cases hbb : b = b'
              · subst hbb
                rw [h3] at hy
                obtain rfl := Option.some.inj hy
                exact h4
              · exact (i5 he).2 a b' y (.inr ⟨rfl, by omega⟩) hy
      · rw [ho_out h1 h2]
        obtain ⟨i1, i2, i3, i4, i5⟩ := ih t (a + 1) (a + 2) ht (by omega) (by omega) (by omega) (by have := hoM_f (t := t) (a := a) (b := b) h1 hb hn; omega) ho
        have e1 : (t.nodes - (a + 2)) + tri (t.nodes - (a + 1) - 1) ≤ tri (t.nodes - a - 1) := by
          rcases Nat.eq_zero_or_pos (t.nodes - a - 1) with h0 | h0
          · rw [show t.nodes - (a + 2) = 0 by omega, show t.nodes - (a + 1) - 1 = 0 by omega, h0]
            exact Nat.le_refl _
          · obtain ⟨m, hm2⟩ : ∃ m, t.nodes - a - 1 = m + 1 := ⟨t.nodes - a - 2, by omega⟩
            rw [show t.nodes - (a + 2) = m by omega, show t.nodes - (a + 1) - 1 = m by omega, hm2]
            exact Nat.le_refl _
        refine ⟨i1, i2, i3, by omega, fun he => ⟨(i5 he).1, fun a' b' y hl hy => ?_⟩⟩
        have hrg := hoist_range ht.val hy
        rcases hl with hl | ⟨rfl, hl⟩
        · by_cases haa : a' = a + 1
          · subst haa
            exact (i5 he).2 _ b' y (.inr ⟨rfl, by omega⟩) hy
          · exact (i5 he).2 a' b' y (.inl (by omega)) hy
        · omega
    · rw [ho_end h1]
      refine ⟨ht, Nat.le_refl _, ho, by show 0 + sumH t.nodes ≤ _; omega, fun _ => ⟨rfl, fun a' b' y hl hy => ?_⟩⟩
      have := hoist_range ht.val hy
      omega
structure BareT (g : List Ru) (L : List Int) (O : T → Int) (t r : T) : Prop where
 ok : TOk g 14 r
 le : r.nodes ≤ t.nodes
 fails : O r = 2
 prune : ∀ d : Nat, 2 ≤ d → ∀ x ∈ candsT g L r d, O (prunedT g L [x] r) ≠ 2
 hoist : ∀ (a b : Nat) (y : T), hoistOf g r a b = some y → O y ≠ 2
theorem rounds_ok (G : GOk g L) (f : Nat) : ∀ t : T, TOk g 14 t → t.nodes < f → O t = 2 → ((roundsT g L f t).res O).1 = 0 ∧ BareT g L O t ((roundsT g L f t).res O).2 ∧ (roundsT g L f t).len O ≤ sumV t.nodes + sumH t.nodes + sumK t.nodes := by
  induction f with
  | zero => intro t _ h; omega
  | succ f ih =>
    intro t ht hf ho
    obtain ⟨a1, a2, a3, a4, a5⟩ := lev_ok (O := O) G (t.nodes + 1) t 2 ht (Nat.le_refl _) (by omega) ho
    rw [roundsT, Tr.res_bind, Tr.len_bind]
    generalize (levelsT g L (t.nodes + 1) t 2).res O = t1 at *
    generalize (levelsT g L (t.nodes + 1) t 2).len O = l1 at *
    obtain ⟨b1, b2, b3, b4, b5⟩ := ho_ok (O := O) (hoM t1 0 1 + 1) t1 0 1 a1 (by omega) (by omega) (Nat.zero_le _) (Nat.lt_succ_self _) a3
    rw [Tr.res_bind, Tr.len_bind]
    generalize (hoistsT g (hoM t1 0 1 + 1) t1 0 1).res O = t2 at *
    generalize (hoistsT g (hoM t1 0 1 + 1) t1 0 1).len O = l2 at *
    have hp1 := T.nodes_pos t1
    have hrl := rem_le ht.val 2 (Nat.le_refl _)
    have e1 : (t1.nodes - 1) + tri (t1.nodes - 0 - 1) = tri t1.nodes := by
      obtain ⟨m, hm2⟩ : ∃ m, t1.nodes = m + 1 := ⟨t1.nodes - 1, by omega⟩
      rw [hm2]
      rfl
    have e2 := tri_mono a2
    have e3 := sumV_mono b2
    have e4 := sumH_mono a2
    have e5 := sumV_mono a2
    by_cases hle : t.nodes ≤ t2.nodes
    · rw [if_pos hle]
      obtain ⟨rfl, hpr⟩ := a5 (by omega)
      obtain ⟨rfl, hho⟩ := b5 (by omega)
      have hk : 6 * (t2.nodes - 1) + tri t2.nodes ≤ sumK t2.nodes := by
        have := sumK_drop (a := 0) (b := t2.nodes) (by omega)
        omega
      refine ⟨rfl, ⟨b1, Nat.le_refl _, b3, fun d hd x hx => hpr d hd x hx, fun a b y hy => ?_⟩, by show l1 + (l2 + 0) ≤ _; omega⟩
      have hrg := hoist_range b1.val hy
      refine hho a b y ?_ hy
      rcases Nat.eq_zero_or_pos a with rfl | h
      · exact .inr ⟨rfl, by omega⟩
      · exact .inl h
    · rw [if_neg hle]
      obtain ⟨i1, ⟨j1, j2, j3, j4, j5⟩, i3⟩ := ih t2 b1 (by omega) b3
      have e6 := sumK_drop (a := t2.nodes) (b := t.nodes) (by omega)
      exact ⟨i1, ⟨j1, by omega, j3, j4, j5⟩, by omega⟩
end
end

/- hoists: the walk. -/
section
open Go.RowKit
def TrPost (N : Nat) (S : Nat → Prop) (w : World) (s km : Nat) (ans : List Int) (full : T ⊕ (T × (Nat × KnT))) (e : Ending) (w' : World) : Prop :=
 match full with
 | .inl q => ∃ A c, e = .panicked [questionT q A c] ∧ RH S N w' A c q ∧ Fr [s, km] w w'
 | .inr (t', (u, kn)) => ∃ A c, e = .returned (.agg (tcells t' A c)) ∧ RH S N w' A c t' ∧ Fr [s, km] w w' ∧ SKT w' s km ans u kn
structure SLay (w0 w : World) (s km : Nat) (S : Nat → Prop) : Prop where
 fr : Fr [] w0 w
 k0 : w0.heap.size ≤ km
 ks : km < s
 sw : s < w.heap.size
 Ss : S s
 Sk : S km
 lt : ∀ k, S k → k < w.heap.size
theorem SLay.fr0 {w0 w w' : World} {s km : Nat} {S : Nat → Prop} (h : SLay w0 w s km S) (hf : Fr [s, km] w w') : Fr [] w0 w' := h.fr.trans2 hf (by have h1 := h.k0; have h2 := h.ks; simp; omega)
theorem SLay.on {w0 w w' : World} {s km : Nat} {S : Nat → Prop} (h : SLay w0 w s km S) (hf : Fr [s, km] w w') : SLay w0 w' s km S :=
 ⟨h.fr0 hf, h.k0, h.ks, Nat.lt_of_lt_of_le h.sw hf.size, h.Ss, h.Sk, fun k hk => Nat.lt_of_lt_of_le (h.lt k hk) hf.size⟩
theorem TOk.text {g : List Ru} {N : Nat} {t : T} (hro : RulesOk g) (h : TOk g N t) (hN : N ≤ 256) : (textL g t).length ≤ 1000000 := by
 have h1 := text_short hro t h.val
 have := h.few
 omega
def HoF (S : Nat → Prop) (W : Nat) (k : Nat) : Prop := S k ∨ (W ≤ k ∧ k < W + 3)
structure HoS (S : Nat → Prop) (w0 w : World) (s km : Nat) (ans : List Int) (GA : Value) (t : T) (A : Option Addr) (c : Nat) (A7 : Option Addr) (G : List SpH) (u : Nat) (kn : KnT) (W : World) : Prop where
 fr : Fr [s, km] w W
 gb : Blk W w.heap.size 24 #[GA]
 tb : Blk W (w.heap.size + 1) 27 #[.int .i64 t.kind, .string t.text, .slice A t.slots.length c]
 rb : Blk W (w.heap.size + 2) 27 #[.int .i64 0, .string emptyS, .slice none 0 0]
 rh : RH (HoF S w.heap.size) 1024 W A c t
 sk : SKT W s km ans u kn
 cells : Cells W A7 (G.flatMap encS)
 far : ∀ a, A7 = some a → w.heap.size + 3 ≤ a.block
 ok : ∀ p ∈ G, SpS (HoF S w.heap.size) w0.heap.size 1024 W p
section
variable {S : Nat → Prop} {w0 w W W' : World} {s km : Nat} {ans : List Int} {GA : Value} {t : T} {A A7 : Option Addr} {c : Nat} {G : List SpH} {u u' : Nat} {kn kn' : KnT}
theorem HoS.fr0 (L : SLay w0 w s km S) (h : HoS S w0 w s km ans GA t A c A7 G u kn W) (hf : Fr [] W W') : HoS S w0 w s km ans GA t A c A7 G u kn W' :=
 ⟨h.fr.trans0 hf, h.gb.fr hf (by simp), h.tb.fr hf (by simp), h.rb.fr hf (by simp), h.rh.fr0 hf, h.sk.fr0 hf, h.cells.fr0 hf, h.far, fun p hp => (h.ok p hp).fr hf (by simp)⟩
theorem HoS.asked (L : SLay w0 w s km S) (h : HoS S w0 w s km ans GA t A c A7 G u kn W) (hf : Fr [s, km] W W') (hs : SKT W' s km ans u' kn') : HoS S w0 w s km ans GA t A c A7 G u' kn' W' := by
 have h1 := L.ks
 have h2 := L.sw
 refine ⟨h.fr.trans hf, h.gb.fr hf (by simp; omega), h.tb.fr hf (by simp; omega), h.rb.fr hf (by simp; omega), h.rh.fr hf ?_, hs, h.cells.fr hf ?_, h.far, fun p hp => (h.ok p hp).fr hf ?_⟩
 ·intro k hk
  simp at hk
  rcases hk with rfl | rfl
  ·exact .inl L.Ss
  ·exact .inl L.Sk
 ·intro a ha hm
  have := h.far a ha
  simp at hm
  omega
 ·intro k hk
  have := L.k0
  simp at hk
  rcases hk with rfl | rfl
  ·exact ⟨.inl L.Ss, by omega⟩
  ·exact ⟨.inl L.Sk, by omega⟩
theorem HoS.put {x : T} {A2 : Option Addr} {c2 : Nat} (L : SLay w0 w s km S) (h : HoS S w0 w s km ans GA t A c A7 G u kn W) (hx : RH (HoF S w.heap.size) 1024 W A2 c2 x) :
  Fr [s, km] w (((W.setCell ⟨w.heap.size + 1, 0, none⟩ (.int .i64 x.kind)).setCell ⟨w.heap.size + 1, 1, none⟩ (.string x.text)).setCell ⟨w.heap.size + 1, 2, none⟩ (.slice A2 x.slots.length c2)) ∧ HoS S w0 w s km ans GA x A2 c2 none [] u kn (((W.setCell ⟨w.heap.size + 1, 0, none⟩ (.int .i64 x.kind)).setCell ⟨w.heap.size + 1, 1, none⟩ (.string x.text)).setCell ⟨w.heap.size + 1, 2, none⟩ (.slice A2 x.slots.length c2)) := by
 have h1 := L.ks
 have h2 := L.sw
 have hf : Fr [w.heap.size + 1] W (((W.setCell ⟨w.heap.size + 1, 0, none⟩ (.int .i64 x.kind)).setCell ⟨w.heap.size + 1, 1, none⟩ (.string x.text)).setCell ⟨w.heap.size + 1, 2, none⟩ (.slice A2 x.slots.length c2)) := fr_three (Fr.refl _ _) (.inl (by simp)) _ _ _
 have hfw := h.fr.trans2 hf (List.forall_mem_singleton.2 (.inr (by omega)))
 refine ⟨hfw, hfw, h.gb.fr hf (by simp), h.tb.three _ _ _, h.rb.fr hf (by simp), hx.fr hf (List.forall_mem_singleton.2 (.inr ⟨by omega, by omega⟩)), h.sk.fr hf (by simp; omega) (by simp; omega) (by simp; omega), fun h0 => by simp at h0, by simp, by simp⟩
end
theorem hoM_next {t : T} {a b : Nat} (h : b < t.nodes) : hoM t a (b + 1) < hoM t a b := by unfold hoM; omega
theorem hoM_out {t : T} {a b : Nat} (h : a < t.nodes) (hb : b ≤ t.nodes) (hn : t.nodes ≤ 1024) : hoM t (a + 1) (a + 1 + 1) < hoM t a b := by unfold hoM; omega
theorem hoM_less {t x : T} {a b : Nat} (h : x.nodes < t.nodes) (hn : t.nodes ≤ 1024) : hoM x a (a + 1) < hoM t a b := by unfold hoM; omega
theorem gk_succ {t gk : Nat} (h : t < gk) : ∃ m, gk = m + 1 := ⟨gk - 1, by omega⟩
set_option maxRecDepth 20000 in
set_option maxHeartbeats 6400000 in
theorem hoists_any (A : Option Addr) (c : Nat) (g : List Ru) (L : List Int) (G : GOk g L) (N : Nat) (hN : N ≤ 256) (w0 w : World) (s km : Nat) (S : Nat → Prop) (hL : SLay w0 w s km S) (ha : RRu w0 A c g) (ans : List Int) (u : Nat) (kn : KnT) (hsk : SKT w s km ans u kn)
  (t : T) (AT : Option Addr) (cT : Nat) (ht : TOk g N t) (hR : RH S 1024 w AT cT t) :
  Calls Tryz.prog 30 #[.pointer (some ⟨s, 0, none⟩), .agg #[.slice A g.length c], .agg (tcells t AT cT)] w (TrPost 1024 S w s km ans ((hoistsT g (hoM t 0 1 + 1) t 0 1).go (askST g ans) (u, kn))) := by
 obtain ⟨full, hfull⟩ : ∃ r, (hoistsT g (hoM t 0 1 + 1) t 0 1).go (askST g ans) (u, kn) = r := ⟨_, rfl⟩
 rw [hfull]
 obtain ⟨W, hW⟩ : ∃ W, W = ((w.alloc (.cells #[.slice A g.length c] 24)).alloc (.cells #[.int .i64 t.kind, .string t.text, .slice AT t.slots.length cT] 27)).alloc (.cells #[.int .i64 0, .string emptyS, .slice none 0 0] 27) := ⟨_, rfl⟩
 have hF : Fr [] w W := by rw [hW]; exact frx
 have hz : W.heap.size = w.heap.size + 3 := by rw [hW]; simp
 have hn := ht.few
 have hR1 : RH (HoF S w.heap.size) 1024 W AT cT t := (hR.sub (S' := HoF S w.heap.size) (fun k h1 h2 => by
  rcases h2 with h2 | h2
  ·exact h2
  ·omega)).fr0 hF
 have hI : HoS S w0 w s km ans (.slice A g.length c) t AT cT none [] u kn W :=
  ⟨hF.mono (by simp), by rw [hW]; exact ((Blk.new w _ _ _ rfl).alloc _).alloc _, by rw [hW]; exact (Blk.new _ _ _ _ (by simp)).alloc _, by rw [hW]; exact Blk.new _ _ _ _ (by simp), hR1, hsk.fr0 hF, fun h0 => by simp at h0, by simp, by simp⟩
 have q0 : W.cell? ⟨w.heap.size, 0, none⟩ = some (.slice A g.length c) := hI.gb.cell 0 rfl
 have p0 : W.cell? ⟨w.heap.size + 1, 0, none⟩ = some (.int .i64 t.kind) := hI.tb.cell 0 rfl
 have p1 : W.cell? ⟨w.heap.size + 1, 1, none⟩ = some (.string t.text) := hI.tb.cell 1 rfl
 have p2 : W.cell? ⟨w.heap.size + 1, 2, none⟩ = some (.slice AT t.slots.length cT) := hI.tb.cell 2 rfl
 rw [hW] at q0 p0 p1 p2
 have HW := Lib.hid hW.symm
 have HFU := Lib.hid hfull
 clear hW hfull
 have HSP : Hid (∀ (W : World) (x : T) (A2 : Option Addr) (c2 : Nat), Fr [s, km] w W → w.heap.size + 3 ≤ W.heap.size → TOk g N x → RH (HoF S w.heap.size) 1024 W A2 c2 x →
   Calls Tryz.prog 44 #[.agg #[.slice A g.length c], .agg (tcells x A2 c2), .agg #[.int .u8 0, .slice none 0 0, .string emptyS], .int .i64 1] W fun e w' => ∃ (A7 : Option Addr) (c7 : Nat) (G : List SpH), e = .returned (.slice A7 x.nodes c7) ∧ Fr [] W w' ∧ Hid (G.map (·.1) = spotsT g x slot0 1) ∧ Cells w' A7 (G.flatMap encS) ∧ (∀ a, A7 = some a → w.heap.size + 3 ≤ a.block) ∧ ∀ p ∈ G, SpS (HoF S w.heap.size) w0.heap.size 1024 w' p) := fun W x A2 c2 hf hz3 hx hr => by
  have h1 := spotsS_any A c g w0 ha W.heap.size (hL.fr0 hf).size (fun k => HoF S w.heap.size k ∨ W.heap.size ≤ k) (fun k hk => .inr hk) 1024 x A2 c2 W slot0 none 0 1 (hL.fr0 hf) (Nat.le_refl _) (hr.sub fun k h1 h2 => by
   rcases h2 with h2 | h2
   ·exact h2
   ·omega) (Rd.nil_ _ _) (fun a h => by cases h) hx.val (by have := hx.few; omega) (by omega) (by have := hx.few; omega)
  refine h1.mono ?_
  rintro e w' ⟨A7, c7, G2, rfl, hf2, hGm, hGo, hGs⟩
  refine ⟨A7, c7, G2, ?_, hf2, hGm, Cells.of_own hGo, fun a ha => Nat.le_trans hz3 (own_block hGo ha).1, fun p hp => ?_⟩
  ·rw [spots_len x hx.val]
  ·have h3 := hGs p hp
   exact ⟨h3.tree.sub fun k _ h => .inl h, h3.kinds, h3.low⟩
 go_enter Tryz.func30, Tryz.ntmps30
 go_wp2_with fail
 rw [HW.out]
 clear p0 p1 p2
 refine (HSP.out W t AT cT (hF.mono (by simp)) (by omega) ht hR1).mono ?_
 rintro e w1 ⟨A7, c7, G7, rfl, hf1, hGm, hGc, hGf, hGo⟩
 have hI1 : HoS S w0 w s km ans (.slice A g.length c) t AT cT A7 G7 u kn w1 := by
  have h := hI.fr0 hL hf1
  exact ⟨h.fr, h.gb, h.tb, h.rb, h.rh, h.sk, hGc, hGf, hGo⟩
 clear hI hGc hGf hGo hf1 q0 hR1 hF hz
 go_wp2_with fail
 go_loopg [7, 8] (hoM t 0 1 + 1) (fun gk lv av wr => ∃ (x : T) (A2 : Option Addr) (c2 : Nat) (A7 : Option Addr) (c7 : Nat) (G7 : List SpH) (u2 : Nat) (kn2 : KnT) (a : Nat), lv = .slice A7 x.nodes c7 ∧ av = .int .i64 a ∧ a ≤ x.nodes ∧ hoM x a (a + 1) < gk ∧ TOk g N x ∧ Hid (G7.map (·.1) = spotsT g x slot0 1) ∧
  HoS S w0 w s km ans (.slice A g.length c) x A2 c2 A7 G7 u2 kn2 wr ∧ Hid (full = (hoistsT g gk x a (a + 1)).go (askST g ans) (u2, kn2)))
 case atStart => exact ⟨t, AT, cT, A7, c7, G7, u, kn, 0, rfl, rfl, Nat.zero_le _, Nat.lt_succ_self _, ht, hGm, hI1, HFU.out.symm⟩
 case round =>
  clear hI1 hGm
  obtain ⟨x, A2, c2, A7, c7, G7, u2, kn2, a, rfl, rfl, hax, hm, hx, hGm, hS, hfu⟩ := hrel
  have hlg := congrArg List.length hGm.out
  rw [List.length_map, spots_len x hx.val] at hlg
  have hxn := hx.few
  by_cases hlt : a < x.nodes
  ·go_wp2_with fail
   go_loopg [7, 9] gk (fun gk2 lv bv wr => ∃ (x : T) (A2 : Option Addr) (c2 : Nat) (A7 : Option Addr) (c7 : Nat) (G7 : List SpH) (u2 : Nat) (kn2 : KnT) (b : Nat), lv = .slice A7 x.nodes c7 ∧ bv = .int .i64 b ∧ a < x.nodes ∧ b ≤ x.nodes ∧ gk2 ≤ gk ∧ hoM x a b < gk2 ∧ TOk g N x ∧ Hid (G7.map (·.1) = spotsT g x slot0 1) ∧
    HoS S w0 w s km ans (.slice A g.length c) x A2 c2 A7 G7 u2 kn2 wr ∧ Hid (full = (hoistsT g gk2 x a b).go (askST g ans) (u2, kn2)))
   case atStart => exact ⟨x, A2, c2, A7, c7, G7, u2, kn2, a + 1, rfl, by go_num, hlt, hlt, Nat.le_refl _, hm, hx, hGm, hS, hfu⟩
   case round =>
    clear hlg hxn hlt hm hx hGm hS hfu hax
    obtain ⟨x, A2, c2, A7, c7, G7, u2, kn2, b, rfl, rfl, hlt, hbx, hgk, hm, hx, hGm, hS, hfu⟩ := hrel
    obtain ⟨f, rfl⟩ := gk_succ hm
    have hlg := congrArg List.length hGm.out
    rw [List.length_map, spots_len x hx.val] at hlg
    have hxn := hx.few
    have hph := List.getElem?_eq_getElem (l := G7) (i := a) (by omega)
    obtain ⟨ph, hph2⟩ : ∃ ph, G7[a]'(by omega) = ph := ⟨_, rfl⟩
    rw [hph2] at hph
    have hpa : (spotsT g x slot0 1)[a]? = some ph.1 := by rw [← hGm.out, List.getElem?_map, hph]; rfl
    have hsz := size_at hpa
    have hsl := size_le hx.val hlt
    rw [hsz] at hsl
    obtain ⟨b7, o7, rfl, hcell⟩ := hS.cells (by rw [encS_len]; omega)
    have y7 : wr.cell? ⟨b7, o7 + a * 8 + 7, none⟩ = some (.int .i64 ph.1.size) := by
     rw [Nat.add_assoc]
     exact hcell _ _ (encS_at G7 a ph hph 7 _ rfl)
    have HPS := Lib.hid hsz
    clear hph hph2 hpa hsz hcell hlg
    by_cases h2 : b < a + ph.1.size
    ·have hh2 : b < a + sizeAt g x a := by rw [HPS.out]; exact h2
     have q0 : wr.cell? ⟨w.heap.size, 0, none⟩ = some (.slice A g.length c) := hS.gb.cell 0 rfl
     have p0 : wr.cell? ⟨w.heap.size + 1, 0, none⟩ = some (.int .i64 x.kind) := hS.tb.cell 0 rfl
     have p1 : wr.cell? ⟨w.heap.size + 1, 1, none⟩ = some (.string x.text) := hS.tb.cell 1 rfl
     have p2 : wr.cell? ⟨w.heap.size + 1, 2, none⟩ = some (.slice A2 x.slots.length c2) := hS.tb.cell 2 rfl
     have hz3 : w.heap.size + 3 ≤ wr.heap.size := hS.rb.lt
     have hho := hoisted_any A A2 (some ⟨b7, o7, none⟩) c c2 c7 g G.ro wr.heap.size 1024 x (HoF S w.heap.size) G7 (a : Int) (b : Int) wr (ha.fr0 (hL.fr0 hS.fr)) hS.rh hx.val (by omega) hGm.out hS.cells fun p hp => by
      have h := hS.ok p hp
      exact ⟨h.tree.sub fun k h1 h2 => absurd h1 (Nat.not_lt.2 h2), h.kinds, fun a ha h0 => Nat.lt_of_lt_of_le (h.low a ha h0) (hL.fr0 hS.fr).size⟩
     have HHO := Lib.hid hho
     clear hho
     go_wp2_with fail
     refine HHO.out.mono ?_
     clear HHO
     rintro e wa ⟨A9, c9, rfl, hfa, hR9⟩
     obtain ⟨W1, hW1⟩ : ∃ W1, W1 = wa.alloc (.cells (tcells ((hoistOf g x (a : Int) (b : Int)).getD zeroT) A9 c9) 27) := ⟨_, rfl⟩
     have hf1 : Fr [] wr W1 := by rw [hW1]; exact hfa.alloc _
     have hf19 : Fr [] wa W1 := by rw [hW1]; exact (Fr.refl _ _).alloc _
     have hS1 := hS.fr0 hL hf1
     have hBx : Blk W1 wa.heap.size 27 (tcells ((hoistOf g x (a : Int) (b : Int)).getD zeroT) A9 c9) := by rw [hW1]; exact Blk.new _ _ _ _ rfl
     have hza := hfa.size
     have hR1 : RH (HoF S w.heap.size) (1024 + 1024) W1 A9 c9 ((hoistOf g x (a : Int) (b : Int)).getD zeroT) := (hR9.sub (S' := HoF S w.heap.size) (fun k _ hk => by
      show k < wr.heap.size
      rcases hk with hk | hk
      ·have := hL.lt k hk; omega
      ·omega)).fr0 hf19
     rcases hho : hoistOf g x (a : Int) (b : Int) with _ | y
     ·rw [ho_no hlt hh2 hho] at hfu
      rw [hho] at hW1 hBx hR1
      have HW1 := Lib.hid hW1.symm
      have hmn := hoM_next (t := x) (a := a) (b := b) (by omega)
      clear hW1 hho hR9
      go_wp2_with fail
      simp only [tcells, Option.getD_none] at HW1
      rw [HW1.out]
      go_roundg f
      case measure => omega
      case rel => exact ⟨x, A2, c2, _, c7, G7, u2, kn2, b + 1, rfl, by go_num, hlt, by omega, by omega, by omega, hx, hGm, hS1, hfu⟩
     ·rw [hho] at hW1 hBx hR1
      simp only [tcells, Option.getD_some] at hW1
      rw [ho_ask hlt hh2 hho] at hfu
      have hy := hx.hoist hho
      have hyn := (hoist_ok hx.val hho).2
      have hyl := hoist_low hx.val hho
      have hR1 : RH (HoF S w.heap.size) 1024 W1 A9 c9 y := RH.tight (by omega) hR1
      have hml := hoM_less (t := x) (x := y) (a := a) (b := b) hyn (by omega)
      have hmn := hoM_next (t := x) (a := a) (b := b) (by omega)
      have q1 : W1.cell? ⟨w.heap.size, 0, none⟩ = some (.slice A g.length c) := hS1.gb.cell 0 rfl
      have z0 : W1.cell? ⟨wa.heap.size, 0, none⟩ = some (.int .i64 y.kind) := hBx.cell 0 rfl
      have z1 : W1.cell? ⟨wa.heap.size, 1, none⟩ = some (.string y.text) := hBx.cell 1 rfl
      have z2 : W1.cell? ⟨wa.heap.size, 2, none⟩ = some (.slice A9 y.slots.length c9) := hBx.cell 2 rfl
      have hza3 : w.heap.size + 3 ≤ wa.heap.size := by omega
      rw [hW1] at q1 z0 z1 z2
      have HW1 := Lib.hid hW1.symm
      have HTX := Lib.hid (hy.text G.ro hN)
      clear hW1 hho hR9 hS q0 p0 p1 p2 hfa hf19 y7
      rcases hq : askVT ans u2 kn2 (textL g y) with _ | ⟨v, u3, kn3⟩
      ·have hRes : Hid (full = .inl y) := by show _ = _; rw [hfu.out, Tr.go_none (askS_noneT hq)]
       have HQ := Lib.hid hq
       clear hq hfu
       go_wp2_with fail
       rw [HW1.out]
       refine (tf_ask A c g s km ans u2 kn2 y 1024 (HoF S w.heap.size) A9 c9 _ hS1.sk (ha.fr0 (hL.fr0 hS1.fr)) hR1 hy.val HTX.out HQ.out).mono ?_
       rintro e wb ⟨rfl, hfb⟩
       go_wp2
       rw [hRes.out]
       exact ⟨rfl, A9, c9, rfl, (hR1.sub fun k _ h => .inl h).fr0 hfb, hS1.fr.trans0 hfb⟩
      ·have hfl : full = (if v = 2 then hoistsT g f y a (a + 1) else hoistsT g f x a (b + 1)).go (askST g ans) (u3, kn3) := by rw [hfu.out, Tr.go_some (askS_someT hq)]
       have HQ := Lib.hid hq
       clear hq hfu
       by_cases hv2 : v = 2
       ·have hb3 : (v == 2) = true := by simp [hv2]
        rw [if_pos hv2] at hfl
        have HFL := Lib.hid hfl
        clear hfl hv2
        go_wp2_with fail
        rw [HW1.out]
        refine (tf_got A c g s km ans u2 kn2 y 1024 (HoF S w.heap.size) A9 c9 _ hS1.sk (ha.fr0 (hL.fr0 hS1.fr)) hR1 hy.val HTX.out HQ.out).mono ?_
        rw [hb3]
        rintro e wb ⟨rfl, hfb, hskb⟩
        have hSb := hS1.asked hL hfb hskb
        have hsw := hL.sw
        have hks := hL.ks
        have hBxb := hBx.fr hfb (by simp; omega)
        have hRb : RH (HoF S w.heap.size) 1024 wb A9 c9 y := hR1.fr hfb (by
         intro k hk
         simp at hk
         rcases hk with rfl | rfl
         ·exact .inl hL.Ss
         ·exact .inl hL.Sk)
        obtain ⟨hfp, hSp⟩ := hSb.put hL hRb
        have x0 : wb.cell? ⟨wa.heap.size, 0, none⟩ = some (.int .i64 y.kind) := hBxb.cell 0 rfl
        have x1 : wb.cell? ⟨wa.heap.size, 1, none⟩ = some (.string y.text) := hBxb.cell 1 rfl
        have x2 : wb.cell? ⟨wa.heap.size, 2, none⟩ = some (.slice A9 y.slots.length c9) := hBxb.cell 2 rfl
        have p0 : wb.cell? ⟨w.heap.size + 1, 0, none⟩ = some (.int .i64 x.kind) := hSb.tb.cell 0 rfl
        have p1 : wb.cell? ⟨w.heap.size + 1, 1, none⟩ = some (.string x.text) := hSb.tb.cell 1 rfl
        have p2 : wb.cell? ⟨w.heap.size + 1, 2, none⟩ = some (.slice A2 x.slots.length c2) := hSb.tb.cell 2 rfl
        have v0 := hSb.tb.frozen 0
        have v1 := hSb.tb.frozen 1
        have v2 := hSb.tb.frozen 2
        obtain ⟨W2, hW2⟩ : ∃ W2, W2 = ((wb.setCell ⟨w.heap.size + 1, 0, none⟩ (.int .i64 y.kind)).setCell ⟨w.heap.size + 1, 1, none⟩ (.string y.text)).setCell ⟨w.heap.size + 1, 2, none⟩ (.slice A9 y.slots.length c9) := ⟨_, rfl⟩
        rw [← hW2] at hfp hSp
        have q2 : W2.cell? ⟨w.heap.size, 0, none⟩ = some (.slice A g.length c) := hSp.gb.cell 0 rfl
        have r0 : W2.cell? ⟨w.heap.size + 1, 0, none⟩ = some (.int .i64 y.kind) := hSp.tb.cell 0 rfl
        have r1 : W2.cell? ⟨w.heap.size + 1, 1, none⟩ = some (.string y.text) := hSp.tb.cell 1 rfl
        have r2 : W2.cell? ⟨w.heap.size + 1, 2, none⟩ = some (.slice A9 y.slots.length c9) := hSp.tb.cell 2 rfl
        have hz2 : w.heap.size + 3 ≤ W2.heap.size := hSp.rb.lt
        rw [hW2] at q2 r0 r1 r2
        have HW2 := Lib.hid hW2.symm
        clear hW2 q1 z0 z1 z2 hBx hBxb hSb
        go_wp2_with fail
        rw [HW2.out]
        refine (HSP.out W2 y A9 c9 hfp hz2 hy hSp.rh).mono ?_
        rintro e wc ⟨A8, c8, G8, rfl, hf8, hGm8, hGc8, hGf8, hGo8⟩
        have hS8 : HoS S w0 w s km ans (.slice A g.length c) y A9 c9 A8 G8 u3 kn3 wc := by
         have h := hSp.fr0 hL hf8
         exact ⟨h.fr, h.gb, h.tb, h.rb, h.rh, h.sk, hGc8, hGf8, hGo8⟩
        clear q2 r0 r1 r2 x0 x1 x2 p0 p1 p2 v0 v1 v2 hSp hGc8 hGf8 hGo8
        go_wp2_with fail
        go_roundg f
        case measure => omega
        case rel => exact ⟨y, A9, c9, A8, c8, G8, u3, kn3, a + 1, rfl, by go_num, hyl, hyl, by omega, by omega, hy, hGm8, hS8, HFL⟩
       ·have hb3 : (v == 2) = false := by simpa using hv2
        rw [if_neg hv2] at hfl
        have HFL := Lib.hid hfl
        clear hfl hv2
        go_wp2_with fail
        rw [HW1.out]
        refine (tf_got A c g s km ans u2 kn2 y 1024 (HoF S w.heap.size) A9 c9 _ hS1.sk (ha.fr0 (hL.fr0 hS1.fr)) hR1 hy.val HTX.out HQ.out).mono ?_
        rw [hb3]
        rintro e wb ⟨rfl, hfb, hskb⟩
        have hSb := hS1.asked hL hfb hskb
        go_wp2_with fail
        go_roundg f
        case measure => omega
        case rel => exact ⟨x, A2, c2, _, c7, G7, u3, kn3, b + 1, rfl, by go_num, hlt, by omega, by omega, by omega, hx, hGm, hSb, HFL⟩
    ·have hh2 : ¬ b < a + sizeAt g x a := by rw [HPS.out]; exact h2
     rw [ho_out hlt hh2] at hfu
     have hmo := hoM_out (t := x) (a := a) (b := b) hlt hbx (by omega)
     go_wp2_with fail
     go_roundg f
     case measure => omega
     case rel => exact ⟨x, A2, c2, _, c7, G7, u2, kn2, a + 1, rfl, by go_num, hlt, by omega, hx, hGm, hS, hfu⟩
  ·obtain rfl : a = x.nodes := by omega
   obtain ⟨f, rfl⟩ := gk_succ hm
   have hRes : Hid (full = .inr (x, (u2, kn2))) := by show _ = _; rw [hfu.out, ho_end hlt]; rfl
   have p0 : wr.cell? ⟨w.heap.size + 1, 0, none⟩ = some (.int .i64 x.kind) := hS.tb.cell 0 rfl
   have p1 : wr.cell? ⟨w.heap.size + 1, 1, none⟩ = some (.string x.text) := hS.tb.cell 1 rfl
   have p2 : wr.cell? ⟨w.heap.size + 1, 2, none⟩ = some (.slice A2 x.slots.length c2) := hS.tb.cell 2 rfl
   have r0 : wr.cell? ⟨w.heap.size + 1 + 1, 0, none⟩ = some (.int .i64 0) := hS.rb.cell 0 rfl
   have r1 : wr.cell? ⟨w.heap.size + 1 + 1, 1, none⟩ = some (.string emptyS) := hS.rb.cell 1 rfl
   have r2 : wr.cell? ⟨w.heap.size + 1 + 1, 2, none⟩ = some (.slice none 0 0) := hS.rb.cell 2 rfl
   have v0 := hS.rb.frozen 0
   have v1 := hS.rb.frozen 1
   have v2 := hS.rb.frozen 2
   have hsw := hL.sw
   have hks := hL.ks
   clear hfu hlt
   go_wp2_with fail
   refine bodyPost_ret (results_tree rfl _ _ (w.heap.size + 1 + 1) rfl (hS.rb.three _ _ _)) rfl ?_
   rw [hRes.out]
   have hfe : Fr [w.heap.size + 2] wr (((wr.setCell ⟨w.heap.size + 2, 0, none⟩ (.int .i64 x.kind)).setCell ⟨w.heap.size + 2, 1, none⟩ (.string x.text)).setCell ⟨w.heap.size + 2, 2, none⟩ (.slice A2 x.slots.length c2)) := fr_three (Fr.refl _ _) (.inl (by simp)) _ _ _
   exact ⟨A2, c2, rfl, (hS.rh.fr hfe (List.forall_mem_singleton.2 (.inr ⟨by omega, by omega⟩))).sub fun k _ h => .inl h, hS.fr.trans2 hfe (List.forall_mem_singleton.2 (.inr (by omega))), hS.sk.fr hfe (by simp; omega) (by simp; omega) (by simp; omega)⟩
end

/- The closures of levels: the tree of which some candidates stay, and whether it fails. -/
section
open Go Go.RowKit
structure StB (w0 : World) (bg bw bc : Nat) (A : Option Addr) (c : Nat) (g : List Ru) (t : T) (AT : Option Addr) (cT : Nat) (C : Option Addr) (cc : Nat) (cs : List Int) (W : World) : Prop where
 gb : Blk W bg 24 #[.slice A g.length c]
 wb : Blk W bw 27 #[.int .i64 t.kind, .string t.text, .slice AT t.slots.length cT]
 cb : Blk W bc 53 #[.slice C cs.length cc]
 rd : Rd W (.int .i64) C cc cs
theorem StB.fr0 {w0 : World} {bg bw bc : Nat} {A : Option Addr} {c : Nat} {g : List Ru} {t : T} {AT : Option Addr} {cT : Nat} {C : Option Addr} {cc : Nat} {cs : List Int} {W W' : World} (h : StB w0 bg bw bc A c g t AT cT C cc cs W) (hf : Fr [] W W') : StB w0 bg bw bc A c g t AT cT C cc cs W' :=
 ⟨h.gb.fr hf (by simp), h.wb.fr hf (by simp), h.cb.fr hf (by simp), h.rd.fr0 hf⟩
set_option maxRecDepth 20000 in
set_option maxHeartbeats 3200000 in
theorem stand_any (A : Option Addr) (c : Nat) (g : List Ru) (L : List Int) (G : GOk g L) (N : Nat) (hN : N ≤ 256) (t : T) (AT : Option Addr) (cT : Nat) (C : Option Addr) (cc : Nat) (cs : List Int) (Q : Option Addr) (qc : Nat) (q : List Int) (S : Nat → Prop) (w0 w : World) (bg bw bc : Nat)
  (hB : StB w0 bg bw bc A c g t AT cT C cc cs w) (ha : RRu w A c g) (hR : RH S 1024 w AT cT t) (hq : Rd w (.int .i64) Q qc q) (ht : TOk g N t) (hcan : CanAll g L t (minus cs q)) (hl : cs.length ≤ 256) :
  Calls Tryz.prog 59 #[.slice Q q.length qc, .pointer (some ⟨bg, 0, none⟩), .pointer (some ⟨bw, 0, none⟩), .pointer (some ⟨bc, 0, none⟩)] w (RetT 1024 w (prunedT g L (minus cs q) t)) := by
 obtain ⟨W, hW⟩ : ∃ W, W = w.alloc (.cells #[.int .i64 0, .string emptyS, .slice none 0 0] 27) := ⟨_, rfl⟩
 have hF : Fr [] w W := by rw [hW]; exact frx
 have hz1 : w.heap.size + 1 ≤ W.heap.size := by rw [hW]; simp
 have hBr : Blk W w.heap.size 27 #[.int .i64 0, .string emptyS, .slice none 0 0] := by rw [hW]; exact Blk.new _ _ _ _ rfl
 have hBW := hB.fr0 hF
 have q0 : W.cell? ⟨bg, 0, none⟩ = some (.slice A g.length c) := hBW.gb.cell 0 rfl
 have p0 : W.cell? ⟨bw, 0, none⟩ = some (.int .i64 t.kind) := hBW.wb.cell 0 rfl
 have p1 : W.cell? ⟨bw, 1, none⟩ = some (.string t.text) := hBW.wb.cell 1 rfl
 have p2 : W.cell? ⟨bw, 2, none⟩ = some (.slice AT t.slots.length cT) := hBW.wb.cell 2 rfl
 have k0 : W.cell? ⟨bc, 0, none⟩ = some (.slice C cs.length cc) := hBW.cb.cell 0 rfl
 obtain ⟨y, hy⟩ : ∃ y, prunedT g L (minus cs q) t = y := ⟨_, rfl⟩
 have hyn := (pruned_ok G.ro G.lok G.le ht.val hcan).2.1
 rw [hy] at hyn ⊢
 have HY := Lib.hid hy
 have hn := ht.few
 have hbg := Nat.ne_of_lt hB.gb.lt
 have hbw := Nat.ne_of_lt hB.wb.lt
 have hbc := Nat.ne_of_lt hB.cb.lt
 have HW := Lib.hid hW.symm
 clear hW hy
 go_enter Tryz.func59, Tryz.ntmps59
 go_wp2_with fail
 rw [HW.out]
 go_region_held3 (fun w' => w'.cell? ⟨bg, 0, none⟩ = some (.slice A g.length c) ∧ w'.cell? ⟨bw, 0, none⟩ = some (.int .i64 t.kind) ∧ w'.cell? ⟨bw, 1, none⟩ = some (.string t.text) ∧ w'.cell? ⟨bw, 2, none⟩ = some (.slice AT t.slots.length cT) ∧ w'.cell? ⟨bc, 0, none⟩ = some (.slice C cs.length cc))
  (first
   | with_reducible exact ⟨hFa.cell q0 (by simp), hFa.cell p0 (by simp), hFa.cell p1 (by simp), hFa.cell p2 (by simp), hFa.cell k0 (by simp)⟩
   | with_reducible exact ⟨hFb.cell q0 (by simp), hFb.cell p0 (by simp), hFb.cell p1 (by simp), hFb.cell p2 (by simp), hFb.cell k0 (by simp)⟩
   | with_reducible exact ⟨hFs.cell q0 (by simp [hbg]), hFs.cell p0 (by simp [hbw]), hFs.cell p1 (by simp [hbw]), hFs.cell p2 (by simp [hbw]), hFs.cell k0 (by simp [hbc])⟩
   | (go_keep; done))
  (first
   | (go_at_call 60; refine (without_any C Q cc qc cs q _ (hBW.rd.fr0 frx) (hq.fr0 (Fr.trans hF frx)) (by omega)).mono ?_; simp only [RetOwn, List.length_map]; rintro e wa ⟨A6, c6, rfl, hfa, ho6⟩; have hFa : Fr [] W wa := (Fr.trans frx hfa); have hr6 : Rd wa (.int .i64) A6 c6 (minus cs q) := own_rd ho6 rfl rfl)
   | (go_at_call 48; refine (pruned_any A A6 AT c c6 cT g L (minus cs q) 1024 t S _ (ha.fr0 (Fr.trans hF (Fr.trans hFa frx))) G.lok G.ro G.ne G.g32 G.le (hr6.fr0 frx) hcan.zero ht.val (by omega) (hR.fr0 (Fr.trans hF (Fr.trans hFa frx)))).mono ?_; rw [HY.out]; rintro e wb ⟨A7, c7, rfl, hfb, hR7⟩; have hFb : Fr [] W wb := (Fr.trans hFa (Fr.trans frx hfb)); have hzb := hFb.size; have hBz := hBr.fr hFb (by simp); have u0 := hBz.cell 0 rfl; have u1 := hBz.cell 1 rfl; have u2 := hBz.cell 2 rfl; have v0 := hBz.frozen 0; have v1 := hBz.frozen 1; have v2 := hBz.frozen 2; have hFs := fr_three (S := [w.heap.size]) (g := w.heap.size) (hFb.mono (by simp)) (.inl (by simp)) (.int .i64 y.kind) (.string y.text) (.slice A7 y.slots.length c7); have hR8 := RH.sub (S' := fun k => k < w.heap.size + 1) hR7 (fun k _ hk => Nat.lt_of_lt_of_le hk (Nat.le_trans hz1 (Fr.size (Fr.trans hFa frx : Fr [] W _))))))
 go_wp2
 refine bodyPost_ret (results_tree rfl _ _ w.heap.size rfl (hBz.three _ _ _)) rfl ?_
 refine ⟨A7, c7, rfl, fr_three (hF.trans hFb) (.inr (Nat.le_refl _)) _ _ _, ?_⟩
 exact ((RH.tight (m := 1024) (by omega) hR8).fr (fr_three (S := [w.heap.size]) (Fr.refl _ _) (.inl (by simp)) _ _ _) (List.forall_mem_singleton.2 (Nat.lt_succ_self _))).sub fun k _ hk => Nat.lt_succ_of_lt hk
abbrev standV (bg bw bc : Nat) : Value := .func (.func 59) #[] #[.pointer (some ⟨bg, 0, none⟩), .pointer (some ⟨bw, 0, none⟩), .pointer (some ⟨bc, 0, none⟩)]
set_option maxRecDepth 20000 in
set_option maxHeartbeats 3200000 in
theorem lev2_any (A : Option Addr) (c : Nat) (g : List Ru) (L : List Int) (G : GOk g L) (N : Nat) (hN : N ≤ 256) (t : T) (AT : Option Addr) (cT : Nat) (C : Option Addr) (cc : Nat) (cs : List Int) (Q : Option Addr) (qc : Nat) (q : List Int) (S : Nat → Prop) (w0 w : World) (s km bs bg bw bc bst : Nat)
  (hB : StB w0 bg bw bc A c g t AT cT C cc cs w) (hs : Blk w bs 70 #[.pointer (some ⟨s, 0, none⟩)]) (hst : Blk w bst 105 #[standV bg bw bc]) (ha : RRu w A c g) (hR : RH S 1024 w AT cT t) (hq : Rd w (.int .i64) Q qc q) (ht : TOk g N t) (hcan : CanAll g L t (minus cs q)) (hl : cs.length ≤ 256)
  (hsk : bs ≠ s ∧ bs ≠ km ∧ bg ≠ s ∧ bg ≠ km ∧ bst ≠ s ∧ bst ≠ km) (R : Ending → World → Prop)
  (hon : ∀ w2 D d, Fr [] w w2 → RH (fun k => k < w.heap.size) 1024 w2 D d (prunedT g L (minus cs q) t) → Calls Tryz.prog 29 #[.pointer (some ⟨s, 0, none⟩), .agg #[.slice A g.length c], .agg (tcells (prunedT g L (minus cs q) t) D d)] w2 fun e w' => (∃ b : Bool, e = .returned (.bool b) ∧ Fr [s, km] w2 w' ∧ R (.returned (.bool b)) w') ∨ ∃ ch, e = .panicked ch ∧ R (.panicked ch) w') :
  Calls Tryz.prog 62 #[.slice Q q.length qc, .pointer (some ⟨bs, 0, none⟩), .pointer (some ⟨bg, 0, none⟩), .pointer (some ⟨bst, 0, none⟩)] w R := by
 have q0 : w.cell? ⟨bg, 0, none⟩ = some (.slice A g.length c) := hB.gb.cell 0 rfl
 have s0 : w.cell? ⟨bs, 0, none⟩ = some (.pointer (some ⟨s, 0, none⟩)) := hs.cell 0 rfl
 have f0 : w.cell? ⟨bst, 0, none⟩ = some (standV bg bw bc) := hst.cell 0 rfl
 have HON := Lib.hid hon
 obtain ⟨n1, n2, n3, n4, n5, n6⟩ := hsk
 clear hon
 go_enter Tryz.func62, Tryz.ntmps62
 go_wp2_with fail
 refine wp_region_held_drew (S := fun w' => w'.cell? ⟨bg, 0, none⟩ = some (.slice A g.length c) ∧ w'.cell? ⟨bs, 0, none⟩ = some (.pointer (some ⟨s, 0, none⟩)) ∧ w'.cell? ⟨bst, 0, none⟩ = some (standV bg bw bc)) (by kernel_rfl) ⟨q0, s0, f0⟩ (fun hHeld => ?_)
 refine wpAnyH_take (i := 0) (v := .pointer (some ⟨s, 0, none⟩)) rfl (by kernel_rfl) (by kernel_rfl) (by kernel_rfl) (fun _ _ _ h => h) (Or.inl ⟨by rfl, fun w hSw => ?_⟩) (by assumption) ?_
 ·(try dsimp only at hSw); go_simp
 try simp only [List.getElem_toArray, List.getElem_cons_succ, List.getElem_cons_zero, Act.put, List.setIfInBounds_toArray, List.set_cons_zero, List.set_cons_succ]
 refine wpAnyH_take (i := 1) (v := .agg #[.slice A g.length c]) rfl (by kernel_rfl) (by kernel_rfl) (by kernel_rfl) (fun _ _ _ h => h) (Or.inl ⟨by rfl, fun w hSw => ?_⟩) (by assumption) ?_
 ·(try dsimp only at hSw); go_simp
 try simp only [List.getElem_toArray, List.getElem_cons_succ, List.getElem_cons_zero, Act.put, List.setIfInBounds_toArray, List.set_cons_zero, List.set_cons_succ]
 refine wpAnyH_take (i := 2) (v := standV bg bw bc) rfl (by kernel_rfl) (by kernel_rfl) (by kernel_rfl) (fun _ _ _ h => h) (Or.inl ⟨by rfl, fun w hSw => ?_⟩) (by assumption) ?_
 ·(try dsimp only at hSw); go_simp
 try simp only [List.getElem_toArray, List.getElem_cons_succ, List.getElem_cons_zero, Act.put, List.setIfInBounds_toArray, List.set_cons_zero, List.set_cons_succ]
 refine wpAnyH_take (i := 3) (v := .slice Q q.length qc) rfl (by kernel_rfl) (by kernel_rfl) (by kernel_rfl) (fun _ _ _ h => h) (Or.inl ⟨by rfl, fun w hSw => ?_⟩) (by assumption) ?_
 ·(try dsimp only at hSw); go_simp
 try simp only [List.getElem_toArray, List.getElem_cons_succ, List.getElem_cons_zero, Act.put, List.setIfInBounds_toArray, List.set_cons_zero, List.set_cons_succ]
 refine wpAnyH_ready (rs := [4]) (by kernel_rfl) (by simp) ?_
 refine AllReadyH.cons rfl (fun K hK => ?_) AllReadyH.nil
 go_simp
 refine (stand_any A c g L G N hN t AT cT C cc cs Q qc q S w0 _ bg bw bc (hB.fr0 frx) (ha.fr0 frx) (hR.fr0 frx) (hq.fr0 frx) ht hcan hl).mono ?_
 rintro e wa ⟨D, d, rfl, hfa, hRa⟩
 have hFa : Fr [] w wa := (Fr.trans frx hfa)
 refine hK.out _ _ ⟨hFa.cell q0 (by simp), hFa.cell s0 (by simp), hFa.cell f0 (by simp)⟩ (fun hHeld2 => ?_)
 clear hK K
 try simp only [List.getElem_toArray, List.getElem_cons_succ, List.getElem_cons_zero, Act.put, List.setIfInBounds_toArray, List.set_cons_zero, List.set_cons_succ]
 refine wpAnyH_ready (rs := [5]) (by kernel_rfl) (by simp) ?_
 refine AllReadyH.cons rfl (fun K hK => ?_) AllReadyH.nil
 go_simp
 refine (HON.out wa D d hFa (hRa.sub fun k _ hk => hk)).mono ?_
 rintro e wb (⟨b, rfl, hf8, hr⟩ | ⟨ch, rfl, hr⟩)
 ·refine hK.out _ _ ⟨hf8.cell (hFa.cell q0 (by simp)) (by simp [n3, n4]), hf8.cell (hFa.cell s0 (by simp)) (by simp [n1, n2]), hf8.cell (hFa.cell f0 (by simp)) (by simp [n5, n6])⟩ (fun hHeld3 => ?_)
  clear hK K hHeld hHeld2
  try simp only [List.getElem_toArray, List.getElem_cons_succ, List.getElem_cons_zero, Act.put, List.setIfInBounds_toArray, List.set_cons_zero, List.set_cons_succ]
  refine wpAnyH_take (i := 6) (v := .bool b) rfl (by kernel_rfl) (by kernel_rfl) (by kernel_rfl) (fun _ _ _ h => h) (Or.inl ⟨by rfl, fun w hSw => ?_⟩) (by assumption) ?_
  ·(try dsimp only at hSw); go_simp
  try simp only [List.getElem_toArray, List.getElem_cons_succ, List.getElem_cons_zero, Act.put, List.setIfInBounds_toArray, List.set_cons_zero, List.set_cons_succ]
  refine wpAnyH_done (by kernel_rfl) ?_ _
  go_wp2
  exact hr
 ·exact ⟨rfl, hr⟩
end

/- What minimal's closure does in levels. -/
section
open Go Go.RowKit
structure LvI (S : Nat → Prop) (w0 w : World) (H s km : Nat) (ans : List Int) (bs bg bw bc bst : Nat) (A : Option Addr) (c : Nat) (g : List Ru) (t : T) (AT : Option Addr) (cT : Nat) (C : Option Addr) (cc : Nat) (cs : List Int) (st : Nat × KnT) (W : World) : Prop where
 fr : Fr [s, km] w W
 sk : SKT W s km ans st.1 st.2
 st : StB w0 bg bw bc A c g t AT cT C cc cs W
 sb : Blk W bs 70 #[.pointer (some ⟨s, 0, none⟩)]
 fb : Blk W bst 105 #[standV bg bw bc]
 rh : RH (fun k => S k ∨ H ≤ k) 1024 W AT cT t
structure LvL (S : Nat → Prop) (w0 w : World) (H s km bs bg bw bc bst : Nat) (C : Option Addr) (cs : List Int) : Prop where
 lay : SLay w0 w s km S
 wH : w.heap.size ≤ H
 s_ : w.heap.size ≤ bs ∧ bs < H
 g_ : w.heap.size ≤ bg ∧ bg < H
 w_ : w.heap.size ≤ bw ∧ bw < H
 c_ : w.heap.size ≤ bc ∧ bc < H
 t_ : w.heap.size ≤ bst ∧ bst < H
 C_ : 0 < cs.length → ∀ a, C = some a → w.heap.size ≤ a.block ∧ a.block < H
section
variable {S : Nat → Prop} {w0 w W W' : World} {H s km : Nat} {ans : List Int} {bs bg bw bc bst : Nat} {A : Option Addr} {c : Nat} {g : List Ru} {t : T} {AT : Option Addr} {cT : Nat} {C : Option Addr} {cc : Nat} {cs : List Int} {st st' : Nat × KnT}
theorem LvI.far {Z : List Nat} (L : LvL S w0 w H s km bs bg bw bc bst C cs) (h : LvI S w0 w H s km ans bs bg bw bc bst A c g t AT cT C cc cs st W) (hf : Fr Z W W') (hZ : ∀ z ∈ Z, H ≤ z) : LvI S w0 w H s km ans bs bg bw bc bst A c g t AT cT C cc cs st W' := by
 have h1 := L.lay.sw
 have h2 := L.lay.ks
 have h3 := L.wH
 have n : ∀ x, x < H → x ∉ Z := fun x hx hm => by have := hZ x hm; omega
 exact ⟨h.fr.trans2 hf fun x hx => .inr (by have := hZ x hx; omega), h.sk.fr hf (n _ (by omega)) (n _ (by omega)) (fun x hx => by have := hZ x hx; omega),
  ⟨h.st.gb.fr hf (n _ L.g_.2), h.st.wb.fr hf (n _ L.w_.2), h.st.cb.fr hf (n _ L.c_.2), h.st.rd.fr hf fun h0 a ha => n _ (L.C_ h0 a ha).2⟩, h.sb.fr hf (n _ L.s_.2), h.fb.fr hf (n _ L.t_.2), h.rh.fr hf fun k hk => .inr (hZ k hk)⟩
theorem LvI.asked (L : LvL S w0 w H s km bs bg bw bc bst C cs) (h : LvI S w0 w H s km ans bs bg bw bc bst A c g t AT cT C cc cs st W) (hf : Fr [s, km] W W') (hs : SKT W' s km ans st'.1 st'.2) : LvI S w0 w H s km ans bs bg bw bc bst A c g t AT cT C cc cs st' W' := by
 have h1 := L.lay.sw
 have h2 := L.lay.ks
 have n : ∀ x, w.heap.size ≤ x → x ∉ [s, km] := fun x hx => by simp; omega
 exact ⟨h.fr.trans hf, hs, ⟨h.st.gb.fr hf (n _ L.g_.1), h.st.wb.fr hf (n _ L.w_.1), h.st.cb.fr hf (n _ L.c_.1), h.st.rd.fr hf fun h0 a ha => n _ (L.C_ h0 a ha).1⟩, h.sb.fr hf (n _ L.s_.1), h.fb.fr hf (n _ L.t_.1), h.rh.fr hf fun k hk => by
  simp at hk
  rcases hk with rfl | rfl
  ·exact .inl L.lay.Ss
  ·exact .inl L.lay.Sk⟩
end
def lvM (S : Nat → Prop) (w0 w : World) (H s km : Nat) (ans : List Int) (bs bg bw bc bst : Nat) (A : Option Addr) (c : Nat) (g : List Ru) (L : List Int) (t : T) (AT : Option Addr) (cT : Nat) (C : Option Addr) (cc : Nat) (cs : List Int) : MinC (Nat × KnT) where
 stp := fun st q => askST g ans st (standT g L t cs q)
 I := fun W st => LvI S w0 w H s km ans bs bg bw bc bst A c g t AT cT C cc cs st W
 Z := [s, km]
 B := w.heap.size
 PQ := fun q ch W => ∃ D d, ch = [questionT (standT g L t cs q) D d] ∧ RH S 1024 W D d (standT g L t cs q)
 n := t.nodes
theorem lvM_ok {S : Nat → Prop} {w0 w wm : World} {s km : Nat} {ans : List Int} {bs bg bw bc bst : Nat} {A : Option Addr} {c : Nat} {g : List Ru} {L : List Int} {N : Nat} {t : T} {AT : Option Addr} {cT : Nat} {C : Option Addr} {cc : Nat} {cs : List Int}
  (hL : LvL S w0 w wm.heap.size s km bs bg bw bc bst C cs) (G : GOk g L) (hN : N ≤ 256) (ht : TOk g N t) (ha : RRu w0 A c g) (hcan : ∀ q, CanAll g L t (minus cs q)) (hl : cs.length ≤ 256) :
  (lvM S w0 w wm.heap.size s km ans bs bg bw bc bst A c g L t AT cT C cc cs).Ok wm 62 #[.pointer (some ⟨bs, 0, none⟩), .pointer (some ⟨bg, 0, none⟩), .pointer (some ⟨bst, 0, none⟩)] := by
 have h1 := hL.lay.sw
 have h2 := hL.lay.ks
 have hn := ht.few
 have hy : ∀ q, TOk g N (standT g L t cs q) := fun q => by
  obtain ⟨h3, h4, _⟩ := pruned_ok G.ro G.lok G.le ht.val (hcan q)
  exact ⟨h3, Nat.le_trans h4 ht.few⟩
 have hne : bs ≠ s ∧ bs ≠ km ∧ bg ≠ s ∧ bg ≠ km ∧ bst ≠ s ∧ bst ≠ km := by
  have := hL.s_.1
  have := hL.g_.1
  have := hL.t_.1
  omega
 refine ⟨?_, hL.wH, by show t.nodes ≤ 256; omega, fun args w => by simp [go_sem], fun W W' st Z h hf hZ => h.far hL hf hZ, ?_, ?_, ?_⟩
 ·intro x hx
  have hx : x ∈ [s, km] := hx
  show x < w.heap.size
  simp at hx
  omega
 ·rintro W W' q ch ms ⟨D, d, rfl, hr⟩ hf hm
  exact ⟨D, d, rfl, RH.imp (fun _ _ h => h) (fun p u _ hu => hf.cell hu fun hmm => by
   have h3 := (hm _ hmm).2
   simp [World.cell?, h3] at hu) (Nat.le_refl _) hr⟩
 ·intro W st q Q qc v st' hI hf hq _ hql hv
  have hv : askST g ans st (standT g L t cs q) = some (v, st') := hv
  have hI : LvI S w0 w wm.heap.size s km ans bs bg bw bc bst A c g t AT cT C cc cs st W := hI
  refine lev2_any A c g L G N hN t AT cT C cc cs Q qc q _ w0 W s km bs bg bw bc bst hI.st hI.sb hI.fb (ha.fr0 (hL.lay.fr0 hI.fr)) hI.rh hq ht (hcan q) hl hne _ fun w2 D d hf2 hR2 => ?_
  refine (tf_got A c g s km ans st.1 st.2 (standT g L t cs q) 1024 _ D d w2 (hI.sk.fr0 hf2) (ha.fr0 ((hL.lay.fr0 hI.fr).trans hf2)) hR2 (hy q).val ((hy q).text G.ro hN) (askS_someT' hv)).mono ?_
  rintro e w3 ⟨rfl, hf3, hs3⟩
  exact .inl ⟨_, rfl, hf3, rfl, (hf2.mono (by simp)).trans hf3, (hI.far hL hf2 (by simp)).asked hL hf3 hs3⟩
 ·intro W st q Q qc hI hf hq _ hql hv
  have hv : askST g ans st (standT g L t cs q) = none := hv
  have hI : LvI S w0 w wm.heap.size s km ans bs bg bw bc bst A c g t AT cT C cc cs st W := hI
  refine lev2_any A c g L G N hN t AT cT C cc cs Q qc q _ w0 W s km bs bg bw bc bst hI.st hI.sb hI.fb (ha.fr0 (hL.lay.fr0 hI.fr)) hI.rh hq ht (hcan q) hl hne _ fun w2 D d hf2 hR2 => ?_
  refine (tf_ask A c g s km ans st.1 st.2 (standT g L t cs q) 1024 _ D d w2 (hI.sk.fr0 hf2) (ha.fr0 ((hL.lay.fr0 hI.fr).trans hf2)) hR2 (hy q).val ((hy q).text G.ro hN) (askS_noneT' hv)).mono ?_
  rintro e w3 ⟨rfl, hf3⟩
  refine .inr ⟨_, rfl, _, rfl, hf2.trans hf3, D, d, rfl, (hR2.sub fun k _ hk => ?_).fr0 hf3⟩
  have := hL.lay.lt k hk
  have := hI.fr.size
  show k < W.heap.size
  omega
end

/- levels: the walk. -/
section
open Go Go.RowKit
def LvF (S : Nat → Prop) (W : Nat) (k : Nat) : Prop := S k ∨ (W ≤ k ∧ k < W + 4)
structure LvS (S : Nat → Prop) (w0 w : World) (s km : Nat) (ans : List Int) (GA : Value) (L : List Int) (A5 : Option Addr) (c5 : Nat) (t : T) (A : Option Addr) (c : Nat) (u : Nat) (kn : KnT) (W : World) : Prop where
 fr : Fr [s, km] w W
 sb : Blk W w.heap.size 70 #[.pointer (some ⟨s, 0, none⟩)]
 gb : Blk W (w.heap.size + 1) 24 #[GA]
 tb : Blk W (w.heap.size + 2) 27 #[.int .i64 t.kind, .string t.text, .slice A t.slots.length c]
 rb : Blk W (w.heap.size + 3) 27 #[.int .i64 0, .string emptyS, .slice none 0 0]
 rh : RH (LvF S w.heap.size) 1024 W A c t
 sk : SKT W s km ans u kn
 sz : Rd W (.int .i64) A5 c5 L
 szn : Nw (w.heap.size + 4) A5
section
variable {S : Nat → Prop} {w0 w W W' : World} {s km : Nat} {ans : List Int} {GA : Value} {L : List Int} {A5 : Option Addr} {c5 : Nat} {t : T} {A : Option Addr} {c : Nat} {u u' : Nat} {kn kn' : KnT}
theorem LvS.fr0 (h : LvS S w0 w s km ans GA L A5 c5 t A c u kn W) (hf : Fr [] W W') : LvS S w0 w s km ans GA L A5 c5 t A c u kn W' :=
 ⟨h.fr.trans0 hf, h.sb.fr hf (by simp), h.gb.fr hf (by simp), h.tb.fr hf (by simp), h.rb.fr hf (by simp), h.rh.fr0 hf, h.sk.fr0 hf, h.sz.fr0 hf, h.szn⟩
theorem LvS.asked (Ly : SLay w0 w s km S) (h : LvS S w0 w s km ans GA L A5 c5 t A c u kn W) (hf : Fr [s, km] W W') (hs : SKT W' s km ans u' kn') : LvS S w0 w s km ans GA L A5 c5 t A c u' kn' W' := by
 have h1 := Ly.ks
 have h2 := Ly.sw
 refine ⟨h.fr.trans hf, h.sb.fr hf (by simp; omega), h.gb.fr hf (by simp; omega), h.tb.fr hf (by simp; omega), h.rb.fr hf (by simp; omega), h.rh.fr hf ?_, hs, h.sz.fr hf ?_, h.szn⟩
 ·intro k hk
  simp at hk
  rcases hk with rfl | rfl
  ·exact .inl Ly.Ss
  ·exact .inl Ly.Sk
 ·intro _ a ha hm
  have := h.szn a ha
  simp at hm
  omega
theorem LvS.put {x : T} {A2 : Option Addr} {c2 : Nat} (Ly : SLay w0 w s km S) (h : LvS S w0 w s km ans GA L A5 c5 t A c u kn W) (hx : RH (LvF S w.heap.size) 1024 W A2 c2 x) :
  LvS S w0 w s km ans GA L A5 c5 x A2 c2 u kn (((W.setCell ⟨w.heap.size + 2, 0, none⟩ (.int .i64 x.kind)).setCell ⟨w.heap.size + 2, 1, none⟩ (.string x.text)).setCell ⟨w.heap.size + 2, 2, none⟩ (.slice A2 x.slots.length c2)) := by
 have h1 := Ly.ks
 have h2 := Ly.sw
 have hf : Fr [w.heap.size + 2] W (((W.setCell ⟨w.heap.size + 2, 0, none⟩ (.int .i64 x.kind)).setCell ⟨w.heap.size + 2, 1, none⟩ (.string x.text)).setCell ⟨w.heap.size + 2, 2, none⟩ (.slice A2 x.slots.length c2)) := fr_three (Fr.refl _ _) (.inl (by simp)) _ _ _
 refine ⟨h.fr.trans2 hf (List.forall_mem_singleton.2 (.inr (by omega))), h.sb.fr hf (by simp), h.gb.fr hf (by simp), h.tb.three _ _ _, h.rb.fr hf (by simp), hx.fr hf (List.forall_mem_singleton.2 (.inr ⟨by omega, by omega⟩)), h.sk.fr hf (by simp; omega) (by simp; omega) (by simp; omega), h.sz.fr hf fun _ a ha hm => ?_, h.szn⟩
 have := h.szn a ha
 simp at hm
 omega
end
theorem gen_bind {β σ : Type} {stp : σ → T → Option (Int × σ)} {φ : List Int → T} {m : Tr (List Int) Int (List Int)} {K : List Int → Tr T Int β} {st : σ} : ((m.via φ).bind K).go stp st = match m.go (fun s q => stp s (φ q)) st with
  | .inl q => .inl (φ q)
  | .inr (a, s') => (K a).go stp s' := by
 rw [Tr.go_bind, Tr.go_via]
 cases m.go (fun s q => stp s (φ q)) st <;> rfl
set_option maxRecDepth 20000 in
set_option maxHeartbeats 12800000 in
theorem levels_any (A : Option Addr) (c : Nat) (g : List Ru) (L : List Int) (G : GOk g L) (N : Nat) (hN : N ≤ 256) (w0 w : World) (s km : Nat) (S : Nat → Prop) (hL : SLay w0 w s km S) (ha : RRu w0 A c g) (ans : List Int) (u : Nat) (kn : KnT) (hsk : SKT w s km ans u kn)
  (t : T) (AT : Option Addr) (cT : Nat) (ht : TOk g N t) (hR : RH S 1024 w AT cT t) :
  Calls Tryz.prog 31 #[.pointer (some ⟨s, 0, none⟩), .agg #[.slice A g.length c], .agg (tcells t AT cT)] w (TrPost 1024 S w s km ans ((levelsT g L (t.nodes + 1) t 2).go (askST g ans) (u, kn))) := by
 obtain ⟨full, hfull⟩ : ∃ r, (levelsT g L (t.nodes + 1) t 2).go (askST g ans) (u, kn) = r := ⟨_, rfl⟩
 rw [hfull]
 obtain ⟨W, hW⟩ : ∃ W, W = (((w.alloc (.cells #[.pointer (some ⟨s, 0, none⟩)] 70)).alloc (.cells #[.slice A g.length c] 24)).alloc (.cells #[.int .i64 t.kind, .string t.text, .slice AT t.slots.length cT] 27)).alloc (.cells #[.int .i64 0, .string emptyS, .slice none 0 0] 27) := ⟨_, rfl⟩
 have hF : Fr [] w W := by rw [hW]; exact frx
 have hz : W.heap.size = w.heap.size + 4 := by rw [hW]; simp
 have hn := ht.few
 have hR1 : RH (LvF S w.heap.size) 1024 W AT cT t := (hR.sub (S' := LvF S w.heap.size) (fun k h1 h2 => by
  rcases h2 with h2 | h2
  ·exact h2
  ·omega)).fr0 hF
 have b0 : Blk W w.heap.size 70 #[.pointer (some ⟨s, 0, none⟩)] := by rw [hW]; exact (((Blk.new w _ _ _ rfl).alloc _).alloc _).alloc _
 have b1 : Blk W (w.heap.size + 1) 24 #[.slice A g.length c] := by rw [hW]; exact ((Blk.new _ _ _ _ (by simp)).alloc _).alloc _
 have b2 : Blk W (w.heap.size + 2) 27 #[.int .i64 t.kind, .string t.text, .slice AT t.slots.length cT] := by rw [hW]; exact (Blk.new _ _ _ _ (by simp)).alloc _
 have b3 : Blk W (w.heap.size + 3) 27 #[.int .i64 0, .string emptyS, .slice none 0 0] := by rw [hW]; exact Blk.new _ _ _ _ (by simp)
 have q0 : W.cell? ⟨w.heap.size + 1, 0, none⟩ = some (.slice A g.length c) := b1.cell 0 rfl
 rw [hW] at q0
 have HW := Lib.hid hW.symm
 have HFU := Lib.hid hfull
 have hlen : Hid (L.length = g.length) := G.lok.sz.1
 clear hW hfull
 go_enter Tryz.func31, Tryz.ntmps31
 go_wp2_with fail
 rw [HW.out]
 clear q0
 refine (sizesN_any A c g L _ (ha.fr0 (hL.fr.trans hF)) G.ne G.g32 G.lok.ok G.lok.sz G.lok.pos).mono ?_
 rintro e w1 ⟨A5, c5, rfl, hf1, hr5, hn5⟩
 rw [hlen.out]
 have hS1 : LvS S w0 w s km ans (.slice A g.length c) L A5 c5 t AT cT u kn w1 :=
  ⟨(hF.trans hf1).mono (by simp), b0.fr hf1 (by simp), b1.fr hf1 (by simp), b2.fr hf1 (by simp), b3.fr hf1 (by simp), hR1.fr0 hf1, hsk.fr0 (hF.trans hf1), hr5, fun a ha => by have := hn5 a ha; omega⟩
 clear b0 b1 b2 b3 hR1 hr5 hn5 hf1 hF hz
 go_wp2_with fail
 go_loopg [8] (t.nodes + 1) (fun gk dv wr => ∃ (x : T) (A2 : Option Addr) (c2 u2 : Nat) (kn2 : KnT) (d : Nat), dv = .int .i64 d ∧ 2 ≤ d ∧ d ≤ 1000 ∧ x.nodes + 3 ≤ gk + d ∧ TOk g N x ∧ LvS S w0 w s km ans (.slice A g.length c) L A5 c5 x A2 c2 u2 kn2 wr ∧ Hid (full = (levelsT g L gk x d).go (askST g ans) (u2, kn2)))
 case atStart => exact ⟨t, AT, cT, u, kn, 2, rfl, by omega, by omega, by omega, ht, hS1, HFU.out.symm⟩
 case round =>
  clear hS1
  obtain ⟨wo, hwo⟩ : ∃ wo, wo = wr := ⟨_, rfl⟩
  subst hwo
  obtain ⟨x, A2, c2, u2, kn2, d, rfl, hd2, hd3, hgk, hx, hS, hfu⟩ := hrel
  have hxn := hx.few
  obtain ⟨W1, hW1⟩ : ∃ W1, W1 = wo.alloc (.cells #[.slice none 0 0] 53) := ⟨_, rfl⟩
  have hfW1 : Fr [] wo W1 := by rw [hW1]; exact frx
  have hBc : Blk W1 wo.heap.size 53 #[.slice none 0 0] := by rw [hW1]; exact Blk.new _ _ _ _ rfl
  have hz1 : W1.heap.size = wo.heap.size + 1 := by rw [hW1]; simp
  have hSW := hS.fr0 hfW1
  have q0 : W1.cell? ⟨w.heap.size + 1, 0, none⟩ = some (.slice A g.length c) := hSW.gb.cell 0 rfl
  have p0 : W1.cell? ⟨w.heap.size + 1 + 1, 0, none⟩ = some (.int .i64 x.kind) := hSW.tb.cell 0 rfl
  have p1 : W1.cell? ⟨w.heap.size + 1 + 1, 1, none⟩ = some (.string x.text) := hSW.tb.cell 1 rfl
  have p2 : W1.cell? ⟨w.heap.size + 1 + 1, 2, none⟩ = some (.slice A2 x.slots.length c2) := hSW.tb.cell 2 rfl
  rw [hW1] at q0 p0 p1 p2
  have HW1 := Lib.hid hW1.symm
  have hsp := spotsS_any A c g w0 ha W1.heap.size (hL.fr0 hSW.fr).size (fun k => LvF S w.heap.size k ∨ W1.heap.size ≤ k) (fun k hk => .inr hk) 1024 x A2 c2 W1 slot0 none 0 1 (hL.fr0 hSW.fr) (Nat.le_refl _) (hSW.rh.sub fun k h1 h2 => by
   rcases h2 with h2 | h2
   ·exact h2
   ·omega) (Rd.nil_ _ _) (fun a h => by cases h) hx.val (by omega) (by omega) (by omega)
  have HSP := Lib.hid hsp
  clear hW1 hsp
  go_wp2_with fail
  rw [HW1.out]
  clear q0 p0 p1 p2
  refine HSP.out.mono ?_
  clear HSP
  rintro e w2 ⟨A7, c7, G7, rfl, hf2, hGm, hGo, hGs⟩
  have hll : Hid ((spotsT g x slot0 1).length = x.nodes) := spots_len x hx.val slot0 1
  rw [hll.out] at hGo ⊢
  have hGc : Cells w2 A7 (G7.flatMap encS) := Cells.of_own hGo
  have hGf : ∀ a, A7 = some a → W1.heap.size ≤ a.block := fun a ha => (own_block hGo ha).1
  have hGl : G7.length = x.nodes := by have := congrArg List.length hGm; rw [List.length_map, hll.out] at this; exact this
  have hGm := Lib.hid hGm
  have hGk : Hid (∀ p ∈ G7, Rd w2 (.int .i64) p.2.2.1 p.2.2.2 p.1.slot.kinds ∧ (∀ a, p.2.2.1 = some a → 0 < p.1.slot.kinds.length → a.block < w0.heap.size)) := fun p hp => ⟨(hGs p hp).kinds, (hGs p hp).low⟩
  have hOKS := Lib.hid (spots_ok G.ro x hx.val 1)
  have hHD : Hid (∀ p, (spotsT g x slot0 1)[0]? = some p → p.depth = 1) := fun p hp => by
   rw [spotsT_eq] at hp
   obtain rfl := Option.some.inj hp
   rfl
  have hRT : Hid (∀ k p, 0 < k → (spotsT g x slot0 1)[k]? = some p → p ∈ restT g x 1) := fun k p h0 hp => by
   obtain ⟨k', rfl⟩ : ∃ k', k = k' + 1 := ⟨k - 1, by omega⟩
   rw [spotsT_eq, List.getElem?_cons_succ] at hp
   exact List.mem_of_getElem? hp
  have hz2 := hf2.size
  have hw0 := (hL.fr0 hS.fr).size
  have hBc2 := hBc.fr hf2 (by simp)
  have hfr2 : Fr [] wo w2 := hfW1.trans hf2
  have hany0 : Hid (anyAt (d : Int) (spotsT g x slot0 1) 0 = false) := rfl
  have hS5 := hSW.sz
  have hn5 := hSW.szn
  have hsz5 : Rd w2 (.int .i64) A5 c5 L := hS5.fr0 hf2
  have hlt5 : ∀ a, A5 = some a → 0 < L.length → a.block ≠ wo.heap.size := fun a ha h0 => by
   have := hS.sz.lt h0 a ha
   omega
  clear hGs hGo hBc hSW hS5 hfW1
  go_wp2_with fail
  go_loopw [10, 24] (fun av nv wg => ∃ (k : Nat) (C : Option Addr) (cc : Nat), k ≤ x.nodes ∧ nv = .int .i64 k ∧ av = .bool (anyAt (d : Int) (spotsT g x slot0 1) k) ∧ Blk wg wo.heap.size 53 #[.slice C (candIx L d (spotsT g x slot0 1) k).length cc] ∧
   wg.ownsRow w2.heap.size 3 1 (.slice C (candIx L d (spotsT g x slot0 1) k).length cc) (candIx L d (spotsT g x slot0 1) k).length ((candIx L d (spotsT g x slot0 1) k).map (.int .i64)) ∧ Fr [wo.heap.size] w2 wg) (fun _ n _ => x.nodes - (intOf n).toNat)
  case atStart => exact ⟨0, none, 0, Nat.zero_le _, rfl, by rw [hany0.out], hBc2, World.ownsRow_nil _ _ _ 1, Fr.refl _ _⟩
  case round =>
   obtain ⟨k, C, cc, hk, rfl, rfl, hBg, hown, hfg⟩ := hrel
   by_cases hlt : k < x.nodes
   ·have hph := List.getElem?_eq_getElem (l := G7) (i := k) (by omega)
    obtain ⟨⟨p, ⟨pC, pc⟩, ⟨pD, pd⟩⟩, hph2⟩ : ∃ ph, G7[k]'(by omega) = ph := ⟨_, rfl⟩
    rw [hph2] at hph
    have hpa : (spotsT g x slot0 1)[k]? = some p := by rw [← hGm.out, List.getElem?_map, hph]; rfl
    obtain ⟨b7, o7, rfl, hcell⟩ := hGc (by rw [encS_len]; omega)
    have hb7 : W1.heap.size ≤ b7 := hGf _ rfl
    have y0 : wr.cell? ⟨b7, o7 + k * 8, none⟩ = some (.int .i64 p.tree.kind) := hfg.cell (hcell _ _ (encS_at G7 k _ hph 0 _ rfl)) (by simp; omega)
    have y1 : wr.cell? ⟨b7, o7 + k * 8 + 1, none⟩ = some (.string p.tree.text) := hfg.cell (by rw [Nat.add_assoc]; exact hcell _ _ (encS_at G7 k _ hph 1 _ rfl)) (by simp; omega)
    have y2 : wr.cell? ⟨b7, o7 + k * 8 + 2, none⟩ = some (.slice pC p.tree.slots.length pc) := hfg.cell (by rw [Nat.add_assoc]; exact hcell _ _ (encS_at G7 k _ hph 2 _ rfl)) (by simp; omega)
    have y3 : wr.cell? ⟨b7, o7 + k * 8 + 3, none⟩ = some (.int .u8 p.slot.many) := hfg.cell (by rw [Nat.add_assoc]; exact hcell _ _ (encS_at G7 k _ hph 3 _ rfl)) (by simp; omega)
    have y4 : wr.cell? ⟨b7, o7 + k * 8 + 4, none⟩ = some (.slice pD p.slot.kinds.length pd) := hfg.cell (by rw [Nat.add_assoc]; exact hcell _ _ (encS_at G7 k _ hph 4 _ rfl)) (by simp; omega)
    have y5 : wr.cell? ⟨b7, o7 + k * 8 + 5, none⟩ = some (.string p.slot.between) := hfg.cell (by rw [Nat.add_assoc]; exact hcell _ _ (encS_at G7 k _ hph 5 _ rfl)) (by simp; omega)
    have y6 : wr.cell? ⟨b7, o7 + k * 8 + 6, none⟩ = some (.int .i64 p.depth) := hfg.cell (by rw [Nat.add_assoc]; exact hcell _ _ (encS_at G7 k _ hph 6 _ rfl)) (by simp; omega)
    have y7 : wr.cell? ⟨b7, o7 + k * 8 + 7, none⟩ = some (.int .i64 p.size) := hfg.cell (by rw [Nat.add_assoc]; exact hcell _ _ (encS_at G7 k _ hph 7 _ rfl)) (by simp; omega)
    obtain ⟨hkr, hklow⟩ := hGk.out _ (List.mem_of_getElem? hph)
    have hin := spots_in x hx.val slot0 1 k p hpa
    have han := anyAt_next (d := (d : Int)) hpa
    have hca := candAt_is (L := L) (d := (d : Int)) hpa
    have hzg := hfg.size
    obtain ⟨W5, hW5⟩ : ∃ W5, W5 = wr.alloc (.cells #[.int .i64 p.tree.kind, .string p.tree.text, .slice pC p.tree.slots.length pc, .int .u8 p.slot.many, .slice pD p.slot.kinds.length pd, .string p.slot.between, .int .i64 p.depth, .int .i64 p.size] 86) := ⟨_, rfl⟩
    have hf5 : Fr [] wr W5 := by rw [hW5]; exact frx
    have hfg5 := hfg.trans0 hf5
    have hBx : Blk W5 wr.heap.size 86 #[.int .i64 p.tree.kind, .string p.tree.text, .slice pC p.tree.slots.length pc, .int .u8 p.slot.many, .slice pD p.slot.kinds.length pd, .string p.slot.between, .int .i64 p.depth, .int .i64 p.size] := by rw [hW5]; exact Blk.new _ _ _ _ rfl
    have hBg5 := hBg.fr hf5 (by simp)
    have hown5 := own_fr hown hf5 (by simp)
    by_cases hdp : p.depth = (d : Int)
    ·have hk0 : 0 < k := by
      rcases Nat.eq_zero_or_pos k with rfl | h
      ·have := hHD.out p hpa
       omega
      ·exact h
     obtain ⟨hKOk, hpsz⟩ := hOKS.out p (hRT.out k p hk0 hpa)
     have hd1 : (p.depth != (d : Int)) = false := by simpa using hdp
     have hdd : decide (p.depth = (d : Int)) = true := by simpa using hdp
     rw [hdd, Bool.or_true] at han
     rw [hdd, Bool.true_and] at hca
     have x0 : W5.cell? ⟨wr.heap.size, 0, none⟩ = some (.int .i64 p.tree.kind) := hBx.cell 0 rfl
     have x1 : W5.cell? ⟨wr.heap.size, 1, none⟩ = some (.string p.tree.text) := hBx.cell 1 rfl
     have x2 : W5.cell? ⟨wr.heap.size, 2, none⟩ = some (.slice pC p.tree.slots.length pc) := hBx.cell 2 rfl
     have x3 : W5.cell? ⟨wr.heap.size, 3, none⟩ = some (.int .u8 p.slot.many) := hBx.cell 3 rfl
     have x4 : W5.cell? ⟨wr.heap.size, 4, none⟩ = some (.slice pD p.slot.kinds.length pd) := hBx.cell 4 rfl
     have x5 : W5.cell? ⟨wr.heap.size, 5, none⟩ = some (.string p.slot.between) := hBx.cell 5 rfl
     have x6 : W5.cell? ⟨wr.heap.size, 6, none⟩ = some (.int .i64 p.depth) := hBx.cell 6 rfl
     have x7 : W5.cell? ⟨wr.heap.size, 7, none⟩ = some (.int .i64 p.size) := hBx.cell 7 rfl
     rw [hW5] at x0 x1 x2 x3 x4 x5 x6 x7
     have HW5 := Lib.hid hW5.symm
     have HAN := Lib.hid han
     have HPR := Lib.hid (prunable_any g.length A5 pD c5 pd pC pc L p W5 hlen.out (by have := hsz5.fr hfg5 (fun h0 a ha => by have := hlt5 a ha h0; simpa using this); exact this) (hkr.fr hfg5 (fun h0 a ha => by have := hklow a ha h0; simp; omega)) hKOk (by omega))
     have HDP := Lib.hid hdp
     rcases hpb : prunB L p with _ | _
     ·rw [hpb] at hca HPR
      have HCI := Lib.hid (candIx_no hca)
      clear hW5 hca han hdp hph hpa hpb hph2
      go_wp2_with fail
      rw [HW5.out]
      refine HPR.out.mono ?_
      rintro e w6 ⟨rfl, hf6⟩
      go_wp2_with fail
      go_roundw
      case rel => exact ⟨k + 1, C, cc, by omega, by go_num, by rw [HAN.out], by rw [HCI.out]; exact hBg5.fr hf6 (by simp), by rw [HCI.out]; exact own_fr hown5 hf6 (by simp), hfg5.trans0 hf6⟩
      case measure => simp [intOf]; omega
     ·rw [hpb] at hca HPR
      have HCI := Lib.hid (candIx_yes hca)
      have hcl2 := candIx_le L (d : Int) (spotsT g x slot0 1) k
      clear hW5 hca han hdp hph hpa hpb hph2
      generalize candIx L (d : Int) (spotsT g x slot0 1) k = zs at *
      go_wp2_with fail
      rw [HW5.out]
      refine HPR.out.mono ?_
      rintro e w6 ⟨rfl, hf6⟩
      have hBg6 := hBg5.fr hf6 (by simp)
      have hown6 := own_fr hown5 hf6 (by simp)
      have hf26 : Fr [wo.heap.size] w2 w6 := hfg5.trans0 hf6
      have hz6 := hf26.size
      have c0 : w6.cell? ⟨wo.heap.size, 0, none⟩ = some (.slice C zs.length cc) := hBg6.cell 0 rfl
      have hBg7 := hBg6.alloc (.cells #[.int .i64 (k : Nat)] 3)
      clear y0 y1 y2 y3 y4 y5 y6 y7 x0 x1 x2 x3 x4 x5 x6 x7
      go_wp2_with (at_builtin; refine wpList_append_rd rfl (.tmp 36) (.tmp 38) _ rfl elemInts (.slice C zs.length cc) (zs.map (.int .i64)) rfl (hown6.alloc _) (some ⟨w6.heap.size, 0, none⟩) 1 [(k : Int)] (.int .i64) rfl (Rd.one w6 _ _ _) one_i64 (by simp; omega) (by simp; omega) ?_; intro A9 c9 w9 ho9 hg9 hat9; have hBg9 := hBg7.grown hg9 (fun hk => by have := (hown6.lt _ hk.symm).1; omega); have z0 := hBg9.cell 0 rfl; have zf := hBg9.frozen 0)
      have hne9 : ∀ j, (Value.slice A9 (zs.length + 1) c9).ownBlock = some j → j ∉ [wo.heap.size] := fun j hj => by
       have := (ho9.lt j hj).1
       simp
       omega
      go_roundw
      case rel =>
       refine ⟨k + 1, A9, c9, by omega, by go_num, by rw [HAN.out], ?_, ?_, ((hf26.alloc _).app (hown6.alloc _) (Nat.le_refl _) hg9).setCell (.inl (by simp)) _⟩
       ·rw [HCI.out, List.length_append]
        simpa using hBg9.set_ 0 (.slice A9 (zs.length + 1) c9)
       ·rw [HCI.out, List.length_append, List.map_append]
        exact own_fr ho9 ((Fr.refl [wo.heap.size] w9).setCell (.inl (by simp)) _) hne9
      case measure => simp [intOf]; omega
    ·have hd1 : (p.depth != (d : Int)) = true := by simpa using hdp
     have hdd : decide (p.depth = (d : Int)) = false := by simpa using hdp
     rw [hdd, Bool.or_false] at han
     rw [hdd, Bool.false_and] at hca
     have x6 : W5.cell? ⟨wr.heap.size, 6, none⟩ = some (.int .i64 p.depth) := hBx.cell 6 rfl
     rw [hW5] at x6
     have HW5 := Lib.hid hW5.symm
     have HAN := Lib.hid han
     have HCI := Lib.hid (candIx_no hca)
     clear hW5 hca han hph hpa hph2
     go_wp2_with fail
     rw [HW5.out]
     go_roundw
     case rel => exact ⟨k + 1, C, cc, by omega, by go_num, by rw [HAN.out], by rw [HCI.out]; exact hBg5, by rw [HCI.out]; exact hown5, hfg5⟩
     case measure => simp [intOf]; omega
   ·obtain rfl : k = x.nodes := by omega
    obtain ⟨cs, hcs⟩ : ∃ cs, candsT g L x d = cs := ⟨_, rfl⟩
    have hcs' : candIx L d (spotsT g x slot0 1) x.nodes = cs := hcs
    rw [hcs'] at hBg hown
    have hfw : Fr [] wo wr := hfr2.trans2 hfg (List.forall_mem_singleton.2 (.inr (Nat.le_refl _)))
    have hSg := hS.fr0 hfw
    have p0 : wr.cell? ⟨w.heap.size + 1 + 1, 0, none⟩ = some (.int .i64 x.kind) := hSg.tb.cell 0 rfl
    have p1 : wr.cell? ⟨w.heap.size + 1 + 1, 1, none⟩ = some (.string x.text) := hSg.tb.cell 1 rfl
    have p2 : wr.cell? ⟨w.heap.size + 1 + 1, 2, none⟩ = some (.slice A2 x.slots.length c2) := hSg.tb.cell 2 rfl
    have hsw := hL.sw
    have hks := hL.ks
    rcases han : anyAt (d : Int) (spotsT g x slot0 1) x.nodes with _ | _
    ·have hRes : Hid (full = .inr (x, (u2, kn2))) := by show _ = _; rw [hfu.out, lev_end han]; rfl
     have r0 : wr.cell? ⟨w.heap.size + 1 + 1 + 1, 0, none⟩ = some (.int .i64 0) := hSg.rb.cell 0 rfl
     have r1 : wr.cell? ⟨w.heap.size + 1 + 1 + 1, 1, none⟩ = some (.string emptyS) := hSg.rb.cell 1 rfl
     have r2 : wr.cell? ⟨w.heap.size + 1 + 1 + 1, 2, none⟩ = some (.slice none 0 0) := hSg.rb.cell 2 rfl
     have v0 := hSg.rb.frozen 0
     have v1 := hSg.rb.frozen 1
     have v2 := hSg.rb.frozen 2
     clear hfu han hcs hcs'
     go_wp2_with fail
     refine bodyPost_ret (results_tree rfl _ _ (w.heap.size + 1 + 1 + 1) rfl (hSg.rb.three _ _ _)) rfl ?_
     rw [hRes.out]
     have hfe : Fr [w.heap.size + 3] wr (((wr.setCell ⟨w.heap.size + 3, 0, none⟩ (.int .i64 x.kind)).setCell ⟨w.heap.size + 3, 1, none⟩ (.string x.text)).setCell ⟨w.heap.size + 3, 2, none⟩ (.slice A2 x.slots.length c2)) := fr_three (Fr.refl _ _) (.inl (by simp)) _ _ _
     exact ⟨A2, c2, rfl, (hSg.rh.fr hfe (List.forall_mem_singleton.2 (.inr ⟨by omega, by omega⟩))).sub fun k _ h => .inl h, hSg.fr.trans2 hfe (List.forall_mem_singleton.2 (.inr (by omega))), hSg.sk.fr hfe (by simp; omega) (by simp; omega) (by simp; omega)⟩
    ·have hdn := any_depth hx.val han
     obtain ⟨f, rfl⟩ : ∃ f, gk = f + 1 := ⟨gk - 1, by omega⟩
     have c0 : wr.cell? ⟨wo.heap.size, 0, none⟩ = some (.slice C cs.length cc) := hBg.cell 0 rfl
     by_cases hc : cs = []
     ·rw [lev_skip han (by rw [hcs]; exact hc)] at hfu
      subst hc
      have hcl : (([] : List Int).length : Int) = 0 := rfl
      clear han hcs hcs'
      go_wp2_with fail
      go_roundg f
      case measure => omega
      case rel => exact ⟨x, A2, c2, u2, kn2, d + 1, by go_num, by omega, by omega, by omega, hx, hSg, hfu⟩
     ·have hne : (cs.length : Int) ≠ 0 := by
       have := List.length_pos_iff.2 hc
       omega
      have hcb : ((cs.length : Int) == 0) = false := by simpa using hne
      rw [lev_min han (by rw [hcs]; exact hc), hcs, gen_bind] at hfu
      clear han
      have hmf : ∀ (fn : Fn) (first cap : Array Value) (w : World), (Instr.makeFunc fn first cap).run Tryz.prog w = .ok (.func fn first cap) w := fun _ _ _ _ => rfl
      have hsf : ∀ (a : Addr) (fn : Fn) (first cap : Array Value) (m : Mode) (w : World), (store a (.func fn first cap) m).run Tryz.prog w = stored Tryz.prog w a (.func fn first cap) m := fun a fn first cap m w => run_store _ w a _ m rfl
      have hcan : ∀ q, CanAll g L x (minus cs q) := fun q => by rw [← hcs]; exact cands_can hd2 q
      have hset : isSet x.nodes cs = true := by rw [← hcs]; exact cand_set L d _ _
      have hcl : cs.length ≤ 256 := by
       have := candIx_le L (d : Int) (spotsT g x slot0 1) x.nodes
       rw [hcs'] at this
       omega
      have hzr := hfw.size
      have hrdc : Rd wr (.int .i64) C cc cs := own_rd hown rfl rfl
      have hCf : ∀ a, 0 < cs.length → C = some a → w2.heap.size ≤ a.block ∧ a.block < wr.heap.size := fun a h0 ha => own_block hown ha
      obtain ⟨W8, hW8⟩ : ∃ W8, W8 = (wr.alloc (.cells #[.int .i64 x.kind, .string x.text, .slice A2 x.slots.length c2] 27)).alloc (.cells #[standV (w.heap.size + 1) wr.heap.size wo.heap.size] 105) := ⟨_, rfl⟩
      have hf8 : Fr [] wr W8 := by rw [hW8]; exact frx
      have hz8 : W8.heap.size = wr.heap.size + 2 := by rw [hW8]; simp
      have hBw : Blk W8 wr.heap.size 27 #[.int .i64 x.kind, .string x.text, .slice A2 x.slots.length c2] := by rw [hW8]; exact (Blk.new _ _ _ _ rfl).alloc _
      have hBf : Blk W8 (wr.heap.size + 1) 105 #[standV (w.heap.size + 1) wr.heap.size wo.heap.size] := by rw [hW8]; exact Blk.new _ _ _ _ (by simp)
      have hS8 := hSg.fr0 hf8
      have hBc8 := hBg.fr hf8 (by simp)
      have hzw := hS.fr.size
      have hzb := hS.rb.lt
      have hzs := hS8.fr.size
      have hLv : LvL S w0 w W8.heap.size s km w.heap.size (w.heap.size + 1) wr.heap.size wo.heap.size (wr.heap.size + 1) C cs :=
       ⟨hL, by omega, ⟨by omega, by omega⟩, ⟨by omega, by omega⟩, ⟨by omega, by omega⟩, ⟨by omega, by omega⟩, ⟨by omega, by omega⟩, fun h0 a ha => by have := hCf a h0 ha; omega⟩
      have hI8 : LvI S w0 w W8.heap.size s km ans w.heap.size (w.heap.size + 1) wr.heap.size wo.heap.size (wr.heap.size + 1) A c g x A2 c2 C cc cs (u2, kn2) W8 :=
       ⟨hS8.fr, hS8.sk, ⟨hS8.gb, hBw, hBc8, hrdc.fr0 hf8⟩, hS8.sb, hBf, hS8.rh.sub fun k h1 h2 => by
        rcases h2 with h2 | h2
        ·exact .inl h2
        ·omega⟩
      obtain ⟨mr, hmr⟩ : ∃ r, (minT (minM cs 2 + 1) cs 2).go (fun s q => askST g ans s (standT g L x cs q)) (u2, kn2) = r := ⟨_, rfl⟩
      rw [hmr] at hfu
      have hmin : ∀ wm, wm.heap.size = W8.heap.size → Fr [] W8 wm → Calls Tryz.prog 61 #[.slice C cs.length cc, .func (.func 62) #[] #[.pointer (some ⟨w.heap.size, 0, none⟩), .pointer (some ⟨w.heap.size + 1, 0, none⟩), .pointer (some ⟨wr.heap.size + 1, 0, none⟩)]] wm (GPost (lvM S w0 w W8.heap.size s km ans w.heap.size (w.heap.size + 1) wr.heap.size wo.heap.size (wr.heap.size + 1) A c g L x A2 c2 C cc cs) wm mr) := fun wm hwm hfm => by
       rw [← hmr]
       have hok := lvM_ok (wm := wm) (ans := ans) (A := A) (c := c) (L := L) (AT := A2) (cT := c2) (cc := cc) (by rw [hwm]; exact hLv) G hN hx ha hcan hcl
       rw [hwm] at hok
       exact minimalG_any _ wm _ _ (u2, kn2) C cc cs hok (hI8.far hLv hfm (by simp)) ((hrdc.fr0 hf8).fr0 hfm) (fun h0 a hA => by have := hCf a h0 hA; show w.heap.size ≤ a.block; omega) hset hcl
      have HMIN := Lib.hid hmin
      have f0 : W8.cell? ⟨wr.heap.size + 1, 0, none⟩ = some (standV (w.heap.size + 1) wr.heap.size wo.heap.size) := hBf.cell 0 rfl
      have c8 : W8.cell? ⟨wo.heap.size, 0, none⟩ = some (.slice C cs.length cc) := hBc8.cell 0 rfl
      have HW8 := Lib.hid hW8.symm
      clear hmin hcs' hcs hW8
      go_wp2_with fail
      rw [HW8.out]
      refine wp_region_held_drew (S := fun w' => w'.cell? ⟨wr.heap.size + 1, 0, none⟩ = some (standV (w.heap.size + 1) wr.heap.size wo.heap.size) ∧ w'.cell? ⟨wo.heap.size, 0, none⟩ = some (.slice C cs.length cc)) (by kernel_rfl) ⟨f0, c8⟩ (fun hHeld => ?_)
      refine wpAnyH_take (i := 0) (v := standV (w.heap.size + 1) wr.heap.size wo.heap.size) rfl (by kernel_rfl) (by kernel_rfl) (by kernel_rfl) (fun _ _ _ h => h) (Or.inl ⟨by rfl, fun w hSw => ?_⟩) (by assumption) ?_
      ·(try dsimp only at hSw); go_simp
      try simp only [List.getElem_toArray, List.getElem_cons_succ, List.getElem_cons_zero, Act.put, List.setIfInBounds_toArray, List.set_cons_zero, List.set_cons_succ]
      refine wpAnyH_take (i := 1) (v := .slice C cs.length cc) rfl (by kernel_rfl) (by kernel_rfl) (by kernel_rfl) (fun _ _ _ h => h) (Or.inl ⟨by rfl, fun w hSw => ?_⟩) (by assumption) ?_
      ·(try dsimp only at hSw); go_simp
      try simp only [List.getElem_toArray, List.getElem_cons_succ, List.getElem_cons_zero, Act.put, List.setIfInBounds_toArray, List.set_cons_zero, List.set_cons_succ]
      refine wpAnyH_take (i := 2) (v := .func (.func 62) #[] #[.pointer (some ⟨w.heap.size, 0, none⟩), .pointer (some ⟨w.heap.size + 1, 0, none⟩), .pointer (some ⟨wr.heap.size + 1, 0, none⟩)]) rfl (by kernel_rfl) (by kernel_rfl) (by kernel_rfl) (fun _ _ _ h => h) (Or.inl ⟨by rfl, fun w hSw => ?_⟩) (by assumption) ?_
      ·(try dsimp only at hSw); go_simp
      try simp only [List.getElem_toArray, List.getElem_cons_succ, List.getElem_cons_zero, Act.put, List.setIfInBounds_toArray, List.set_cons_zero, List.set_cons_succ]
      refine wpAnyH_ready (rs := [3]) (by kernel_rfl) (by simp) ?_
      refine AllReadyH.cons rfl (fun K hK => ?_) AllReadyH.nil
      go_simp
      refine (HMIN.out _ (by rfl) frx).mono ?_
      intro e wn hpost
      rcases mr with q | ⟨cs', u3, kn3⟩
      ·obtain ⟨ch, rfl, ⟨D, d', rfl, hRq⟩, hfq⟩ := hpost
       have hRes : Hid (full = .inl (standT g L x cs q)) := hfu
       have hfq : Fr [s, km] W8.drew wn := hfq
       have hfin : Fr [s, km] w wn := hS8.fr.trans (Fr.trans ((Fr.refl _ W8).drew) hfq)
       have HRQ := Lib.hid hRq
       clear hHeld hK hRq
       rw [hRes.out]
       exact ⟨rfl, D, d', rfl, HRQ.out, hfin⟩
      ·obtain ⟨A8, c9, rfl, hr8, hfq, hI9, hA8⟩ := hpost
       have hfu : Hid (full = (levelsT g L f (standT g L x cs cs') (d + 1)).go (askST g ans) (u3, kn3)) := hfu
       have hfq : Fr [s, km] W8.drew wn := hfq
       have hI9 : LvI S w0 w W8.heap.size s km ans w.heap.size (w.heap.size + 1) wr.heap.size wo.heap.size (wr.heap.size + 1) A c g x A2 c2 C cc cs (u3, kn3) wn := hI9
       have hf8n : Fr [s, km] W8 wn := Fr.trans ((Fr.refl _ W8).drew) hfq
       have hS9 := hS8.asked hL hf8n hI9.sk
       have g0 : wn.cell? ⟨wr.heap.size + 1, 0, none⟩ = some (standV (w.heap.size + 1) wr.heap.size wo.heap.size) := hI9.fb.cell 0 rfl
       have g1 : wn.cell? ⟨wo.heap.size, 0, none⟩ = some (.slice C cs.length cc) := hI9.st.cb.cell 0 rfl
       have hz9 := hf8n.size
       have hzw9 := hS9.fr.size
       refine hK.out _ _ ⟨g0, g1⟩ (fun hHeld2 => ?_)
       clear hK K
       try simp only [List.getElem_toArray, List.getElem_cons_succ, List.getElem_cons_zero, Act.put, List.setIfInBounds_toArray, List.set_cons_zero, List.set_cons_succ]
       refine wpAnyH_ready (rs := [4]) (by kernel_rfl) (by simp) ?_
       refine AllReadyH.cons rfl (fun K hK => ?_) AllReadyH.nil
       go_simp
       refine (stand_any A c g L G N hN x A2 c2 C cc cs A8 c9 cs' _ w0 _ (w.heap.size + 1) wr.heap.size wo.heap.size (hI9.st.fr0 frx) (ha.fr0 ((hL.fr0 hI9.fr).trans frx)) (hI9.rh.fr0 frx) (hr8.fr0 frx) hx (hcan cs') hcl).mono ?_
       rintro e wp ⟨D, d', rfl, hfp0, hRp⟩
       have hfp : Fr [] wn wp := (Fr.trans frx hfp0)
       have hSp := hS9.fr0 hfp
       have hRy : RH (LvF S w.heap.size) 1024 wp D d' (standT g L x cs cs') := hRp.sub fun k _ hk => by
        have h1 : k < wn.heap.size := by
         rcases hk with hk | hk
         ·have := hL.lt k hk; omega
         ·omega
        exact Nat.lt_of_lt_of_le h1 (Fr.size (frx : Fr [] wn _))
       have hy : TOk g N (standT g L x cs cs') := by
        obtain ⟨h3, h4, _⟩ := pruned_ok G.ro G.lok G.le hx.val (hcan cs')
        exact ⟨h3, Nat.le_trans h4 hx.few⟩
       have hyn : (standT g L x cs cs').nodes ≤ x.nodes := (pruned_ok G.ro G.lok G.le hx.val (hcan cs')).2.1
       have hyd : prunedT g L (minus cs cs') x = standT g L x cs cs' := rfl
       rw [hyd]
       clear hyd hRp
       generalize standT g L x cs cs' = y at *
       refine hK.out _ _ ⟨hfp.cell g0 (by simp), hfp.cell g1 (by simp)⟩ (fun hHeld3 => ?_)
       clear hK K
       try simp only [List.getElem_toArray, List.getElem_cons_succ, List.getElem_cons_zero, Act.put, List.setIfInBounds_toArray, List.set_cons_zero, List.set_cons_succ]
       have r0 : wp.cell? ⟨w.heap.size + 1 + 1, 0, none⟩ = some (.int .i64 x.kind) := hSp.tb.cell 0 rfl
       have r1 : wp.cell? ⟨w.heap.size + 1 + 1, 1, none⟩ = some (.string x.text) := hSp.tb.cell 1 rfl
       have r2 : wp.cell? ⟨w.heap.size + 1 + 1, 2, none⟩ = some (.slice A2 x.slots.length c2) := hSp.tb.cell 2 rfl
       have v0 := hSp.tb.frozen 0
       have v1 := hSp.tb.frozen 1
       have v2 := hSp.tb.frozen 2
       have hSy := hSp.put hL hRy
       refine wpAnyH_ready (rs := [5]) (by kernel_rfl) (by simp) ?_
       refine AllReadyH.cons rfl (fun K hK => ?_) AllReadyH.nil
       go_simp
       have hFs : Fr [w.heap.size + 2] wp (((wp.setCell ⟨w.heap.size + 2, 0, none⟩ (.int .i64 y.kind)).setCell ⟨w.heap.size + 2, 1, none⟩ (.string y.text)).setCell ⟨w.heap.size + 2, 2, none⟩ (.slice D y.slots.length d')) := fr_three (Fr.refl _ _) (.inl (by simp)) _ _ _
       refine hK.out _ _ ⟨hFs.cell (hfp.cell g0 (by simp)) (by simp; omega), hFs.cell (hfp.cell g1 (by simp)) (by simp; omega)⟩ (fun hHeld4 => ?_)
       clear hK K hHeld hHeld2 hHeld3
       try simp only [List.getElem_toArray, List.getElem_cons_succ, List.getElem_cons_zero, Act.put, List.setIfInBounds_toArray, List.set_cons_zero, List.set_cons_succ]
       refine wpAnyH_done (by kernel_rfl) ?_ _
       clear hFs r0 r1 r2 v0 v1 v2 g0 g1 f0 c8 c0 p0 p1 p2
       go_wp2
       go_roundg f
       case measure => omega
       case rel => exact ⟨y, D, d', u3, kn3, d + 1, by go_num, by omega, by omega, by omega, hy, hSy, hfu⟩
end

/- Tree's closure: the search that run carries out. -/
section
open Go Go.RowKit
structure T1S (S : Nat → Prop) (w1 : World) (s km bg bn : Nat) (ans : List Int) (GA : Value) (t : T) (A : Option Addr) (c : Nat) (u : Nat) (kn : KnT) (W : World) : Prop where
 fr : Fr [s, km, bn] w1 W
 gb : Blk W bg 24 #[GA]
 nb : Blk W bn 27 #[.int .i64 t.kind, .string t.text, .slice A t.slots.length c]
 rh : RH S 1024 W A c t
 sk : SKT W s km ans u kn
def T1Post (S : Nat → Prop) (w1 : World) (s km bn : Nat) (ans : List Int) (full : T ⊕ ((Int × T) × (Nat × KnT))) (e : Ending) (w' : World) : Prop :=
 match full with
 | .inl q => ∃ A c, e = .panicked [questionT q A c] ∧ RH S 1024 w' A c q ∧ Fr [s, km, bn] w1 w'
 | .inr ((er, t'), (u, _)) => e = .returned (.int .i64 er) ∧ SrchT w' s ans u km ∧ Fr [s, km, bn] w1 w' ∧ ∃ A c, Blk w' bn 27 #[.int .i64 t'.kind, .string t'.text, .slice A t'.slots.length c] ∧ RH S 1024 w' A c t'
structure T1L (S : Nat → Prop) (w0 w1 : World) (s km bg bn : Nat) : Prop where
 fr : Fr [] w0 w1
 k0 : w0.heap.size ≤ km
 ks : km < s
 sw : s < w1.heap.size
 Ss : S s
 Sk : S km
 Sn : S bn
 lt : ∀ k, S k → k < w1.heap.size
 n0 : w0.heap.size ≤ bn
 nw : bn < w1.heap.size
 g : bg ≠ s ∧ bg ≠ km ∧ bg ≠ bn
 n : bn ≠ s ∧ bn ≠ km
 ns : bn < s
theorem tree_not8 {k : Int} {x : ByteArray} {A : Option Addr} {n c : Nat} (i : Nat) (u : Value) (h : (#[Value.int .i64 k, .string x, .slice A n c] : Array Value)[i]? = some u) (y : Int) : u ≠ .int .u8 y := by
 match i, h with
 | 0, h => simp at h; subst h; simp
 | 1, h => simp at h; subst h; simp
 | 2, h => simp at h; subst h; simp
section
variable {S : Nat → Prop} {w0 w1 W W' : World} {s km bg bn : Nat} {ans : List Int} {GA : Value} {t : T} {A : Option Addr} {c : Nat} {u u' : Nat} {kn kn' : KnT}
theorem T1L.lay (L : T1L S w0 w1 s km bg bn) (hf : Fr [s, km, bn] w1 W) : SLay w0 W s km S :=
 ⟨L.fr.trans2 hf (by have := L.k0; have := L.ks; have := L.n0; simp; omega), L.k0, L.ks, Nat.lt_of_lt_of_le L.sw hf.size, L.Ss, L.Sk, fun k hk => Nat.lt_of_lt_of_le (L.lt k hk) hf.size⟩
theorem T1S.fr0 (h : T1S S w1 s km bg bn ans GA t A c u kn W) (hf : Fr [] W W') : T1S S w1 s km bg bn ans GA t A c u kn W' :=
 ⟨h.fr.trans0 hf, h.gb.fr hf (by simp), h.nb.fr hf (by simp), h.rh.fr0 hf, h.sk.fr0 hf⟩
theorem T1S.asked (L : T1L S w0 w1 s km bg bn) (h : T1S S w1 s km bg bn ans GA t A c u kn W) (hf : Fr [s, km] W W') (hs : SKT W' s km ans u' kn') : T1S S w1 s km bg bn ans GA t A c u' kn' W' := by
 obtain ⟨g1, g2, g3⟩ := L.g
 obtain ⟨n1, n2⟩ := L.n
 refine ⟨h.fr.trans2 hf (by simp), h.gb.fr hf (by simp [g1, g2]), h.nb.fr hf (by simp [n1, n2]), h.rh.fr hf ?_, hs⟩
 intro k hk
 simp at hk
 rcases hk with rfl | rfl
 ·exact L.Ss
 ·exact L.Sk
theorem T1S.put {x : T} {A2 : Option Addr} {c2 : Nat} (L : T1L S w0 w1 s km bg bn) (h : T1S S w1 s km bg bn ans GA t A c u kn W) (hx : RH S 1024 W A2 c2 x) :
  T1S S w1 s km bg bn ans GA x A2 c2 u kn (((W.setCell ⟨bn, 0, none⟩ (.int .i64 x.kind)).setCell ⟨bn, 1, none⟩ (.string x.text)).setCell ⟨bn, 2, none⟩ (.slice A2 x.slots.length c2)) := by
 obtain ⟨g1, g2, g3⟩ := L.g
 obtain ⟨n1, n2⟩ := L.n
 have hf : Fr [bn] W (((W.setCell ⟨bn, 0, none⟩ (.int .i64 x.kind)).setCell ⟨bn, 1, none⟩ (.string x.text)).setCell ⟨bn, 2, none⟩ (.slice A2 x.slots.length c2)) := fr_three (Fr.refl _ _) (.inl (by simp)) _ _ _
 refine ⟨h.fr.trans2 hf (by simp), h.gb.fr hf (by simp [g3]), h.nb.three _ _ _, hx.fr hf (List.forall_mem_singleton.2 L.Sn), ?_⟩
 have hS := h.sk
 obtain ⟨A9, c9, hb, hr, hn⟩ := hS.srch.ex
 refine ⟨⟨A9, c9, hb.fr hf (by simp; exact fun h => n1 h.symm), ?_, hn⟩, hS.map.fr hf (by simp; exact fun h => n2 h.symm), hS.ne, hS.le⟩
 exact hr.fr hf fun h0 a ha hm => hr.apart h.nb tree_not8 h0 a ha (by simpa using hm)
end
def goOn {α β σ : Type} (r : T ⊕ (α × σ)) (K : α → σ → T ⊕ (β × σ)) : T ⊕ (β × σ) := match r with
 | .inl q => .inl q
 | .inr (a, s) => K a s
theorem goOn_inr {α β σ : Type} (a : α) (s : σ) (K : α → σ → T ⊕ (β × σ)) : goOn (.inr (a, s)) K = K a s := rfl
theorem goOn_inl {α β σ : Type} (q : T) (K : α → σ → T ⊕ (β × σ)) : goOn (.inl q) K = .inl q := rfl
theorem rounds_succ {g : List Ru} {L : List Int} {f : Nat} {t : T} : roundsT g L (f + 1) t = (levelsT g L (t.nodes + 1) t 2).bind fun t1 => (hoistsT g (hoM t1 0 1 + 1) t1 0 1).bind fun t2 => if t.nodes ≤ t2.nodes then .ret (0, t2) else roundsT g L f t2 := by rw [roundsT]
theorem go_on {α β σ : Type} {stp : σ → T → Option (Int × σ)} (t : Tr T Int α) (f : α → Tr T Int β) (s : σ) : (t.bind f).go stp s = goOn (t.go stp s) fun a s' => (f a).go stp s' := by
 rw [Tr.go_bind]
 unfold goOn
 rcases t.go stp s with q | ⟨a, s'⟩ <;> rfl
set_option maxRecDepth 20000 in
set_option maxHeartbeats 6400000 in
theorem tree1_any (A : Option Addr) (c : Nat) (g : List Ru) (L : List Int) (G : GOk g L) (N : Nat) (hN : N ≤ 256) (S : Nat → Prop) (w0 w1 : World) (s km bg bn : Nat) (hL : T1L S w0 w1 s km bg bn) (ha : RRu w0 A c g) (ans : List Int)
  (t : T) (AT : Option Addr) (cT : Nat) (ht : TOk g N t) (hI : T1S S w1 s km bg bn ans (.slice A g.length c) t AT cT 0 [] w1) :
  Calls Tryz.prog 28 #[.pointer (some ⟨s, 0, none⟩), .pointer (some ⟨bg, 0, none⟩), .pointer (some ⟨bn, 0, none⟩)] w1 (T1Post S w1 s km bn ans ((treeT g L t).go (askST g ans) (0, []))) := by
 obtain ⟨full, hfull⟩ : ∃ r, (treeT g L t).go (askST g ans) (0, []) = r := ⟨_, rfl⟩
 rw [hfull]
 have hn := ht.few
 have q0 : w1.cell? ⟨bg, 0, none⟩ = some (.slice A g.length c) := hI.gb.cell 0 rfl
 have p0 : w1.cell? ⟨bn, 0, none⟩ = some (.int .i64 t.kind) := hI.nb.cell 0 rfl
 have p1 : w1.cell? ⟨bn, 1, none⟩ = some (.string t.text) := hI.nb.cell 1 rfl
 have p2 : w1.cell? ⟨bn, 2, none⟩ = some (.slice AT t.slots.length cT) := hI.nb.cell 2 rfl
 have HTX := Lib.hid (ht.text G.ro hN)
 rcases hq : askVT ans 0 [] (textL g t) with _ | ⟨v, u, kn⟩
 ·have hRes : Hid (full = .inl t) := by show _ = _; rw [← hfull]; exact Tr.go_none (askS_noneT hq)
  have HQ := Lib.hid hq
  clear hq hfull
  go_enter Tryz.func28, Tryz.ntmps28
  go_wp2_with fail
  refine (tf_ask A c g s km ans 0 [] t 1024 S AT cT _ hI.sk (ha.fr0 hL.fr) hI.rh ht.val HTX.out HQ.out).mono ?_
  rintro e w2 ⟨rfl, hf2⟩
  go_wp2
  rw [hRes.out]
  exact ⟨rfl, AT, cT, rfl, hI.rh.fr0 hf2, hf2.mono (by simp)⟩
 ·have hfl : full = (if v = 2 then roundsT g L (t.nodes + 1) t else .ret (7, t)).go (askST g ans) (u, kn) := by rw [← hfull]; exact Tr.go_some (askS_someT hq)
  have HQ := Lib.hid hq
  clear hq hfull
  by_cases hv : v = 2
  ·have hb2 : (v == 2) = true := by simp [hv]
   rw [if_pos hv] at hfl
   have HFL := Lib.hid hfl
   clear hfl hv
   go_enter Tryz.func28, Tryz.ntmps28
   go_wp2_with fail
   refine (tf_got A c g s km ans 0 [] t 1024 S AT cT _ hI.sk (ha.fr0 hL.fr) hI.rh ht.val HTX.out HQ.out).mono ?_
   rw [hb2]
   rintro e w2 ⟨rfl, hf2, hsk2⟩
   have hI2 := hI.asked hL hf2 hsk2
   clear q0 p0 p1 p2 hI
   go_wp2_with fail
   go_loopg [] (t.nodes + 1) (fun gk wr => ∃ (x : T) (A2 : Option Addr) (c2 u2 : Nat) (kn2 : KnT), x.nodes < gk ∧ TOk g N x ∧ T1S S w1 s km bg bn ans (.slice A g.length c) x A2 c2 u2 kn2 wr ∧ Hid (full = (roundsT g L gk x).go (askST g ans) (u2, kn2)))
   case atStart => exact ⟨t, AT, cT, u, kn, Nat.lt_succ_self _, ht, hI2, HFL⟩
   case round =>
    clear hI2
    obtain ⟨x, A2, c2, u2, kn2, hgk, hx, hS, hfu⟩ := hrel
    obtain ⟨f, rfl⟩ := gk_succ hgk
    have hxn := hx.few
    have q0 : wr.cell? ⟨bg, 0, none⟩ = some (.slice A g.length c) := hS.gb.cell 0 rfl
    have p0 : wr.cell? ⟨bn, 0, none⟩ = some (.int .i64 x.kind) := hS.nb.cell 0 rfl
    have p1 : wr.cell? ⟨bn, 1, none⟩ = some (.string x.text) := hS.nb.cell 1 rfl
    have p2 : wr.cell? ⟨bn, 2, none⟩ = some (.slice A2 x.slots.length c2) := hS.nb.cell 2 rfl
    go_wp2_with fail
    refine (Nodes_any 1024 x _ S _ ⟨A2, c2, rfl, hS.rh⟩ (by omega)).mono ?_
    rintro e w3 ⟨rfl, hf3⟩
    have hS3 := hS.fr0 hf3
    have q3 := hf3.cell q0 (by simp)
    have r0 := hf3.cell p0 (by simp)
    have r1 := hf3.cell p1 (by simp)
    have r2 := hf3.cell p2 (by simp)
    clear q0 p0 p1 p2 hS hf3
    obtain ⟨lr, hlr⟩ : ∃ r, (levelsT g L (x.nodes + 1) x 2).go (askST g ans) (u2, kn2) = r := ⟨_, rfl⟩
    have hfu : full = goOn lr fun t1 st1 => ((hoistsT g (hoM t1 0 1 + 1) t1 0 1).bind fun t2 => if x.nodes ≤ t2.nodes then .ret (0, t2) else roundsT g L f t2).go (askST g ans) st1 := by
     rw [hfu.out, ← hlr, rounds_succ]
     exact go_on _ _ _
    have hlev := levels_any A c g L G N hN w0 w3.drew s km S (hL.lay (Fr.trans hS3.fr frx)) ha ans u2 kn2 (hS3.sk.fr0 frx) x A2 c2 hx (hS3.rh.fr0 frx)
    rw [hlr] at hlev
    have HLEV := Lib.hid hlev
    have hall := (levelsT_all (N := N) G (x.nodes + 1) x 2 hx (by omega)).2
    have HFU := Lib.hid hfu
    have HLR := Lib.hid hlr
    clear hlev hfu hlr
    go_wp2_with fail
    refine wp_region_held_drew (S := fun w' => w'.cell? ⟨bg, 0, none⟩ = some (.slice A g.length c)) (by kernel_rfl) q3 (fun hHeld => ?_)
    refine wpAnyH_take (i := 0) (v := .pointer (some ⟨s, 0, none⟩)) rfl (by kernel_rfl) (by kernel_rfl) (by kernel_rfl) (fun _ _ _ h => h) (Or.inl ⟨by rfl, fun w hSw => ?_⟩) (by assumption) ?_
    ·(try dsimp only at hSw); go_simp
    try simp only [List.getElem_toArray, List.getElem_cons_succ, List.getElem_cons_zero, Act.put, List.setIfInBounds_toArray, List.set_cons_zero, List.set_cons_succ]
    refine wpAnyH_take (i := 1) (v := .agg #[.slice A g.length c]) rfl (by kernel_rfl) (by kernel_rfl) (by kernel_rfl) (fun _ _ _ h => h) (Or.inl ⟨by rfl, fun w hSw => ?_⟩) (by assumption) ?_
    ·(try dsimp only at hSw); go_simp
    try simp only [List.getElem_toArray, List.getElem_cons_succ, List.getElem_cons_zero, Act.put, List.setIfInBounds_toArray, List.set_cons_zero, List.set_cons_succ]
    refine wpAnyH_take (i := 2) (v := .pointer (some ⟨s, 0, none⟩)) rfl (by kernel_rfl) (by kernel_rfl) (by kernel_rfl) (fun _ _ _ h => h) (Or.inl ⟨by rfl, fun w hSw => ?_⟩) (by assumption) ?_
    ·(try dsimp only at hSw); go_simp
    try simp only [List.getElem_toArray, List.getElem_cons_succ, List.getElem_cons_zero, Act.put, List.setIfInBounds_toArray, List.set_cons_zero, List.set_cons_succ]
    refine wpAnyH_take (i := 3) (v := .agg #[.slice A g.length c]) rfl (by kernel_rfl) (by kernel_rfl) (by kernel_rfl) (fun _ _ _ h => h) (Or.inl ⟨by rfl, fun w hSw => ?_⟩) (by assumption) ?_
    ·(try dsimp only at hSw); go_simp
    try simp only [List.getElem_toArray, List.getElem_cons_succ, List.getElem_cons_zero, Act.put, List.setIfInBounds_toArray, List.set_cons_zero, List.set_cons_succ]
    refine wpAnyH_ready (rs := [4]) (by kernel_rfl) (by simp) ?_
    refine AllReadyH.cons rfl (fun K hK => ?_) AllReadyH.nil
    go_simp
    refine hK.out _ _ q3 (fun hHeld2 => ?_)
    clear hK K
    try simp only [List.getElem_toArray, List.getElem_cons_succ, List.getElem_cons_zero, Act.put, List.setIfInBounds_toArray, List.set_cons_zero, List.set_cons_succ]
    refine wpAnyH_ready (rs := [5]) (by kernel_rfl) (by simp) ?_
    refine AllReadyH.cons rfl (fun K hK => ?_) AllReadyH.nil
    go_simp
    refine HLEV.out.mono ?_
    intro e wa hpa
    rcases lr with q | ⟨t1, u3, kn3⟩
    ·obtain ⟨D, d, rfl, hRq, hfq⟩ := hpa
     have hRes : Hid (full = .inl q) := by show _ = _; rw [HFU.out, goOn_inl]
     have HRQ := Lib.hid hRq
     have hfin : Fr [s, km, bn] w1 wa := (Fr.trans hS3.fr frx).trans2 hfq (by simp)
     clear hHeld hHeld2 hK hRq
     rw [hRes.out]
     exact ⟨rfl, D, d, rfl, HRQ.out, hfin⟩
    ·obtain ⟨D, d, rfl, hRq, hfq, hskq⟩ := hpa
     have ht1 : TOk g N t1 := Tr.ends_go _ _ hall HLR.out
     have hSa := (hS3.fr0 (Fr.drew (Fr.refl [] w3))).asked hL hfq hskq
     have g0 : wa.cell? ⟨bg, 0, none⟩ = some (.slice A g.length c) := hSa.gb.cell 0 rfl
     refine hK.out _ _ g0 (fun hHeld3 => ?_)
     clear hK K
     try simp only [List.getElem_toArray, List.getElem_cons_succ, List.getElem_cons_zero, Act.put, List.setIfInBounds_toArray, List.set_cons_zero, List.set_cons_succ]
     obtain ⟨hr, hhr⟩ : ∃ r, (hoistsT g (hoM t1 0 1 + 1) t1 0 1).go (askST g ans) (u3, kn3) = r := ⟨_, rfl⟩
     have hfu : full = goOn hr fun t2 st2 => (if x.nodes ≤ t2.nodes then .ret (0, t2) else roundsT g L f t2 : Tr T Int (Int × T)).go (askST g ans) st2 := by
      rw [HFU.out, ← hhr, goOn_inr]
      exact go_on _ _ _
     have hhoi := fun (W : World) (hW : Fr [] wa W) => hoists_any A c g L G N hN w0 W s km S (hL.lay (hSa.fr.trans0 hW)) ha ans u3 kn3 (hSa.sk.fr0 hW) t1 D d ht1 (hRq.fr0 hW)
     rw [hhr] at hhoi
     have HHOI := Lib.hid hhoi
     have hall2 := (hoistsT_all (g := g) (N := N) (hoM t1 0 1 + 1) t1 0 1 ht1).2
     have HFU2 := Lib.hid hfu
     have HHR := Lib.hid hhr
     clear hhoi hfu hhr
     refine wpAnyH_ready (rs := [6]) (by kernel_rfl) (by simp) ?_
     refine AllReadyH.cons rfl (fun K hK => ?_) AllReadyH.nil
     go_simp
     refine (HHOI.out _ frx).mono ?_
     intro e wb hpb
     rcases hr with q | ⟨t2, u4, kn4⟩
     ·obtain ⟨D2, d2, rfl, hRq2, hfq2⟩ := hpb
      have hRes : Hid (full = .inl q) := by show _ = _; rw [HFU2.out, goOn_inl]
      have HRQ := Lib.hid hRq2
      have hfin : Fr [s, km, bn] w1 wb := (hSa.fr.trans0 frx).trans2 hfq2 (by simp)
      clear hHeld hHeld2 hHeld3 hK hRq2
      rw [hRes.out]
      exact ⟨rfl, D2, d2, rfl, HRQ.out, hfin⟩
     ·obtain ⟨D2, d2, rfl, hRq2, hfq2, hskq2⟩ := hpb
      have ht2 : TOk g N t2 := Tr.ends_go _ _ hall2 HHR.out
      have hfu3 : Hid (full = (if x.nodes ≤ t2.nodes then .ret (0, t2) else roundsT g L f t2 : Tr T Int (Int × T)).go (askST g ans) (u4, kn4)) := by show _ = _; rw [HFU2.out, goOn_inr]
      have hSb := (hSa.fr0 frx).asked hL hfq2 hskq2
      have g1 : wb.cell? ⟨bg, 0, none⟩ = some (.slice A g.length c) := hSb.gb.cell 0 rfl
      refine hK.out _ _ g1 (fun hHeld4 => ?_)
      clear hK K
      try simp only [List.getElem_toArray, List.getElem_cons_succ, List.getElem_cons_zero, Act.put, List.setIfInBounds_toArray, List.set_cons_zero, List.set_cons_succ]
      have z0 : wb.cell? ⟨bn, 0, none⟩ = some (.int .i64 x.kind) := hSb.nb.cell 0 rfl
      have z1 : wb.cell? ⟨bn, 1, none⟩ = some (.string x.text) := hSb.nb.cell 1 rfl
      have z2 : wb.cell? ⟨bn, 2, none⟩ = some (.slice A2 x.slots.length c2) := hSb.nb.cell 2 rfl
      have v0 := hSb.nb.frozen 0
      have v1 := hSb.nb.frozen 1
      have v2 := hSb.nb.frozen 2
      have hSc := hSb.put hL hRq2
      refine wpAnyH_ready (rs := [7]) (by kernel_rfl) (by simp) ?_
      refine AllReadyH.cons rfl (fun K hK => ?_) AllReadyH.nil
      go_simp
      refine hK.out _ _ (hSc.gb.cell 0 rfl) (fun hHeld5 => ?_)
      clear hK K hHeld hHeld2 hHeld3 hHeld4
      try simp only [List.getElem_toArray, List.getElem_cons_succ, List.getElem_cons_zero, Act.put, List.setIfInBounds_toArray, List.set_cons_zero, List.set_cons_succ]
      refine wpAnyH_done (by kernel_rfl) ?_ _
      obtain ⟨W9, hW9⟩ : ∃ W9, W9 = ((wb.setCell ⟨bn, 0, none⟩ (.int .i64 t2.kind)).setCell ⟨bn, 1, none⟩ (.string t2.text)).setCell ⟨bn, 2, none⟩ (.slice D2 t2.slots.length d2) := ⟨_, rfl⟩
      rw [← hW9] at hSc ⊢
      clear hHeld5 z0 z1 z2 v0 v1 v2 g0 g1 r0 r1 r2 q3 hW9
      have p0 : W9.cell? ⟨bn, 0, none⟩ = some (.int .i64 t2.kind) := hSc.nb.cell 0 rfl
      have p1 : W9.cell? ⟨bn, 1, none⟩ = some (.string t2.text) := hSc.nb.cell 1 rfl
      have p2 : W9.cell? ⟨bn, 2, none⟩ = some (.slice D2 t2.slots.length d2) := hSc.nb.cell 2 rfl
      have htn := ht2.few
      go_wp2_with fail
      refine (Nodes_any 1024 t2 _ S _ ⟨D2, d2, rfl, hSc.rh⟩ (by omega)).mono ?_
      rintro e wc ⟨rfl, hfc⟩
      have hSd := hSc.fr0 hfc
      by_cases hle : x.nodes ≤ t2.nodes
      ·have hRes : Hid (full = .inr ((0, t2), (u4, kn4))) := by show _ = _; rw [hfu3.out, if_pos hle]; rfl
       have hd : decide ((t2.nodes : Int) ≥ (x.nodes : Int)) = true := by simp; omega
       go_wp2_with fail
       go_ret
       rw [hRes.out]
       exact ⟨rfl, hSd.sk.srch, hSd.fr, D2, d2, hSd.nb, hSd.rh⟩
      ·have hfu4 : Hid (full = (roundsT g L f t2).go (askST g ans) (u4, kn4)) := by show _ = _; rw [hfu3.out, if_neg hle]
       have hd : decide ((t2.nodes : Int) ≥ (x.nodes : Int)) = false := by simp; omega
       go_wp2_with fail
       go_roundg f
       case measure => omega
       case rel => exact ⟨t2, D2, d2, u4, kn4, by omega, ht2, hSd, hfu4⟩
  ·have hb2 : (v == 2) = false := by simpa using hv
   rw [if_neg hv] at hfl
   have hRes : Hid (full = .inr ((7, t), (u, kn))) := hfl
   clear hfl hv
   go_enter Tryz.func28, Tryz.ntmps28
   go_wp2_with fail
   refine (tf_got A c g s km ans 0 [] t 1024 S AT cT _ hI.sk (ha.fr0 hL.fr) hI.rh ht.val HTX.out HQ.out).mono ?_
   rw [hb2]
   rintro e w2 ⟨rfl, hf2, hsk2⟩
   have hI2 := hI.asked hL hf2 hsk2
   go_wp2
   go_ret
   rw [hRes.out]
   exact ⟨rfl, hsk2.srch, hI2.fr, AT, cT, hI2.nb, hI2.rh⟩
end

/- Tree: the walk. -/
section
open Go Go.RowKit
def finTq (ans : List Int) : T ⊕ ((Int × T) × (Nat × KnT)) → (Bool × T) × Int
 | .inl q => ((false, q), 0)
 | .inr ((er, t), (u, _)) => if er ≠ 0 then ((false, zeroT), er) else if u < ans.length then ((false, zeroT), 8) else ((true, t), 0)
theorem fin_err {ans : List Int} {er : Int} {t : T} {u : Nat} {kn : KnT} (h : er ≠ 0) : finTq ans (.inr ((er, t), (u, kn))) = ((false, zeroT), er) := if_pos h
theorem fin_more {ans : List Int} {t : T} {u : Nat} {kn : KnT} (h : u < ans.length) : finTq ans (.inr ((0, t), (u, kn))) = ((false, zeroT), 8) := by
 show (if (0 : Int) ≠ 0 then ((false, zeroT), (0 : Int)) else if u < ans.length then ((false, zeroT), 8) else ((true, t), 0)) = _
 rw [if_neg (by simp), if_pos h]
theorem fin_done {ans : List Int} {t : T} {u : Nat} {kn : KnT} (h : ¬ u < ans.length) : finTq ans (.inr ((0, t), (u, kn))) = ((true, t), 0) := by
 show (if (0 : Int) ≠ 0 then ((false, zeroT), (0 : Int)) else if u < ans.length then ((false, zeroT), 8) else ((true, t), 0)) = _
 rw [if_neg (by simp), if_neg h]
def treeOf (g : List Ru) (L : List Int) (t : T) (ans : List Int) : (Bool × T) × Int :=
 if chkT g L t ≠ 0 then ((false, zeroT), chkT g L t) else if 4096 < ans.length then ((false, zeroT), 3) else finTq ans ((treeT g L t).go (askST g ans) (0, []))
def RetTQ (w : World) (r : (Bool × T) × Int) (e : Ending) (w' : World) : Prop :=
 ∃ A c, e = .returned (.tuple #[.agg #[.bool r.1.1, .int .i64 r.1.2.kind, .string r.1.2.text, .slice A r.1.2.slots.length c], .int .i64 r.2]) ∧ Fr [] w w' ∧ RH (fun k => k < w.heap.size) 1024 w' A c r.1.2
theorem results_tq {fn : Func} {p t : Tmp} (h : fn.results = #[.cell p 41, .tmp t]) (tmps : Array Value) (w : World) (g : Nat) {a0 a1 a2 a3 : Value} (hp : tmps.getD p undef = .pointer (some ⟨g, 0, none⟩)) (hb : Blk w g 41 #[a0, a1, a2, a3]) :
  (results fn tmps).run Tryz.prog w = .ok (.tuple #[.agg #[a0, a1, a2, a3], tmps.getD t undef]) w := by
 have c0 := hb.cell 0 rfl
 have c1 := hb.cell 1 rfl
 have c2 := hb.cell 2 rfl
 have c3 := hb.cell 3 rfl
 simp only [Array.getD_eq_getD_getElem?] at hp
 simp [results, h, go_sem, hp, c0, c1, c2, c3]
theorem treeT_ends {g : List Ru} {L : List Int} {N : Nat} (G : GOk g L) {t : T} (h : TOk g N t) : (treeT g L t).Ends fun r => TOk g N r.2 := by
 intro v
 show Tr.Ends _ (if v = 2 then _ else _)
 split
 ·exact (roundsT_all G _ t h).2
 ·exact h
theorem gok_of {g : List Ru} {L : List Int} {t : T} (hL : rulesErr g = 0 → LOk g L) (h : chkT g L t = 0) : GOk g L := by
 obtain ⟨hcg, _, _, hval, hrok⟩ := chkT_zero h
 obtain ⟨hg0, hg32, hre, _⟩ := chk_zero hcg
 exact ⟨hrok, hL hre, fun k hk => (chk_sz hcg hL hk).2.1, fun h => hg0 (by rw [h]; rfl), hg32⟩
def RunF (bn W : Nat) (k : Nat) : Prop := k = bn ∨ (W ≤ k ∧ k < W + 3)
theorem runF_l {w0 w w1 : World} {bg bn : Nat} {ans : List Int} (hf : Fr [] w0 w) (hat : AtDoT w w1 ans) (hn0 : w0.heap.size ≤ bn) (hnw : bn < w.heap.size) (hgw : bg < w.heap.size) (hgn : bg ≠ bn) :
  T1L (RunF bn w.heap.size) w0 w1 (w.heap.size + 1 + 1) (w.heap.size + 1) bg bn := by
 have h1 := hat.size
 have h2 := hf.size
 exact ⟨hf.trans hat.fr, by omega, by omega, by omega, .inr ⟨by omega, by omega⟩, .inr ⟨by omega, by omega⟩, .inl rfl, fun k hk => by rcases hk with hk | hk <;> omega, hn0, by omega, ⟨by omega, by omega, hgn⟩, ⟨by omega, by omega⟩, by omega⟩
set_option maxRecDepth 20000 in
set_option maxHeartbeats 6400000 in
theorem Tree_any (A D : Option Addr) (c dd : Nat) (g : List Ru) (L : List Int) (n : Nat) (t : T) (v : Value) (S : Nat → Prop) (ans : List Int) (w : World) (ha : RRu w A c g) (hL : rulesErr g = 0 → LOk g L) (ht : RT S n w v t) (hn : t.nodes ≤ 256) (hD : Rd w (.int .u8) D dd ans) :
  Calls Tryz.prog 9 #[.agg #[.slice A g.length c], v, .slice D ans.length dd] w (RetTQ w (treeOf g L t ans)) := by
 obtain ⟨AT, cT, rfl, hR⟩ := ht
 obtain ⟨W, hW⟩ : ∃ W, W = ((w.alloc (.cells #[.slice A g.length c] 24)).alloc (.cells #[.int .i64 t.kind, .string t.text, .slice AT t.slots.length cT] 27)).alloc (.cells #[.bool false, .int .i64 0, .string emptyS, .slice none 0 0] 41) := ⟨_, rfl⟩
 have hF : Fr [] w W := by rw [hW]; exact frx
 have hB1 : Blk W w.heap.size 24 #[.slice A g.length c] := by rw [hW]; exact ((Blk.new w _ _ _ rfl).alloc _).alloc _
 have hB2 : Blk W (w.heap.size + 1) 27 #[.int .i64 t.kind, .string t.text, .slice AT t.slots.length cT] := by rw [hW]; exact (Blk.new _ _ _ _ (by simp)).alloc _
 have hB3 : Blk W (w.heap.size + 2) 41 #[.bool false, .int .i64 0, .string emptyS, .slice none 0 0] := by rw [hW]; exact Blk.new _ _ _ _ (by simp)
 have hz : W.heap.size = w.heap.size + 3 := by rw [hW]; simp
 have q0 : W.cell? ⟨w.heap.size, 0, none⟩ = some (.slice A g.length c) := hB1.cell 0 rfl
 have p0 : W.cell? ⟨w.heap.size + 1, 0, none⟩ = some (.int .i64 t.kind) := hB2.cell 0 rfl
 have p1 : W.cell? ⟨w.heap.size + 1, 1, none⟩ = some (.string t.text) := hB2.cell 1 rfl
 have p2 : W.cell? ⟨w.heap.size + 1, 2, none⟩ = some (.slice AT t.slots.length cT) := hB2.cell 2 rfl
 rw [hW] at q0 p0 p1 p2
 have HW := Lib.hid hW.symm
 clear hW
 obtain ⟨r, hr⟩ : ∃ r, treeOf g L t ans = r := ⟨_, rfl⟩
 rw [hr]
 go_enter Tryz.func9, Tryz.ntmps9
 go_wp2_with fail
 rw [HW.out]
 clear q0 p0 p1 p2
 refine (CheckTree_any A c g L n t _ S _ (ha.fr0 hF) hL ⟨AT, cT, rfl, hR.fr0 hF⟩ (by omega)).mono ?_
 rintro e w1 ⟨rfl, hf1⟩
 have hB1 := hB1.fr hf1 (by simp)
 have hB2 := hB2.fr hf1 (by simp)
 have hB3 := hB3.fr hf1 (by simp)
 have hF1 := hF.trans hf1
 have hz1 := hf1.size
 have hstore : ∀ (w' : World) (b : Bool) (k : Int) (x : ByteArray) (A2 : Option Addr) (m c2 : Nat), Fr [] w w' → Fr [] w ((((w'.setCell ⟨w.heap.size + 2, 0, none⟩ (.bool b)).setCell ⟨w.heap.size + 2, 1, none⟩ (.int .i64 k)).setCell ⟨w.heap.size + 2, 2, none⟩ (.string x)).setCell ⟨w.heap.size + 2, 3, none⟩ (.slice A2 m c2)) := fun w' b k x A2 m c2 hf =>
  (((hf.setCell (p := ⟨w.heap.size + 2, 0, none⟩) (.inr (Nat.le_add_right w.heap.size 2)) _).setCell (p := ⟨w.heap.size + 2, 1, none⟩) (.inr (Nat.le_add_right w.heap.size 2)) _).setCell (p := ⟨w.heap.size + 2, 2, none⟩) (.inr (Nat.le_add_right w.heap.size 2)) _).setCell (p := ⟨w.heap.size + 2, 3, none⟩) (.inr (Nat.le_add_right w.heap.size 2)) _
 by_cases hez : chkT g L t = 0
 ·rw [hez]
  have hval := (chkT_zero hez).2.2.2.1
  have G := gok_of hL hez
  have htok : TOk g 256 t := ⟨hval, hn⟩
  have hr2 : r = if 4096 < ans.length then ((false, zeroT), 3) else finTq ans ((treeT g L t).go (askST g ans) (0, [])) := by
   rw [← hr]
   unfold treeOf
   rw [if_neg (by simp [hez])]
  have HR := Lib.hid hr2
  have p0 : w1.cell? ⟨w.heap.size + 1, 0, none⟩ = some (.int .i64 t.kind) := hB2.cell 0 rfl
  have p1 : w1.cell? ⟨w.heap.size + 1, 1, none⟩ = some (.string t.text) := hB2.cell 1 rfl
  have p2 : w1.cell? ⟨w.heap.size + 1, 2, none⟩ = some (.slice AT t.slots.length cT) := hB2.cell 2 rfl
  clear hr hr2 hez
  go_wp2_with fail
  refine (twin_any g G.ro n t AT cT S _ (hR.fr0 hF1) hval (by omega)).mono ?_
  rintro e w2 ⟨A2, c2, rfl, hf2, hR2⟩
  obtain ⟨W3, hW3⟩ : ∃ W3, W3 = w2.alloc (.cells #[.int .i64 t.kind, .string t.text, .slice A2 t.slots.length c2] 27) := ⟨_, rfl⟩
  have hf3 : Fr [] w2 W3 := by rw [hW3]; exact frx
  have hF3 := hF1.trans (hf2.trans hf3)
  have hBn : Blk W3 w2.heap.size 27 #[.int .i64 t.kind, .string t.text, .slice A2 t.slots.length c2] := by rw [hW3]; exact Blk.new _ _ _ _ rfl
  have hz3 : W3.heap.size = w2.heap.size + 1 := by rw [hW3]; simp
  have hz2 := hf2.size
  have hBg := hB1.fr (hf2.trans hf3) (by simp)
  have hB3 := hB3.fr (hf2.trans hf3) (by simp)
  have hD3 := hD.fr0 hF3
  have hRn : RH (RunF w2.heap.size W3.heap.size) 1024 W3 A2 c2 t := ((RH.tight (m := 1024) (by omega) hR2).sub (S' := RunF w2.heap.size W3.heap.size) (fun k h1 h2 => by
   rcases h2 with h2 | h2 <;> omega)).fr0 hf3
  have hT1 : ∀ wx, AtDoT W3 wx ans → Calls Tryz.prog 28 #[.pointer (some ⟨W3.heap.size + 1 + 1, 0, none⟩), .pointer (some ⟨w.heap.size, 0, none⟩), .pointer (some ⟨w2.heap.size, 0, none⟩)] wx (T1Post (RunF w2.heap.size W3.heap.size) wx (W3.heap.size + 1 + 1) (W3.heap.size + 1) w2.heap.size ans ((treeT g L t).go (askST g ans) (0, []))) := fun wx hat =>
   tree1_any A c g L G 256 (Nat.le_refl _) _ w wx _ _ w.heap.size w2.heap.size (runF_l hF3 hat (by omega) (by omega) (by omega) (by omega)) ha ans t A2 c2 htok ⟨Fr.refl _ _, hBg.fr hat.fr (by simp), hBn.fr hat.fr (by simp), hRn.fr0 hat.fr, ⟨hat.srch, hat.map, by omega, Nat.zero_le _⟩⟩
  have hmf : ∀ (fn : Fn) (first cap : Array Value) (w : World), (Instr.makeFunc fn first cap).run Tryz.prog w = .ok (.func fn first cap) w := fun _ _ _ _ => rfl
  have hent : ∀ (args : Array Value) (w : World), (callFunc 28 args).run Tryz.prog w = .ok (.enter 28 args) w := fun args w => by simp [go_sem]
  have HW3 := Lib.hid hW3.symm
  have HT1 := Lib.hid hT1
  have HENT := Lib.hid hent
  clear hW3 hT1 hent p0 p1 p2 hB1 hB2
  obtain ⟨full, hfull⟩ : ∃ x, (treeT g L t).go (askST g ans) (0, []) = x := ⟨_, rfl⟩
  rw [hfull] at HR HT1
  have hzw : w.heap.size < w2.heap.size := by omega
  by_cases h4 : 4096 < ans.length
  ·have hRes : Hid (r = ((false, zeroT), 3)) := by show _ = _; rw [HR.out, if_pos h4]
   go_wp2_with fail
   rw [HW3.out]
   refine (run_limitT W3 D dd ans _ hD3 h4).mono ?_
   rintro e w5 ⟨rfl, hf5⟩
   have hF5 : Fr [] w w5 := hF3.trans hf5
   have hB5 := hB3.fr hf5 (by simp)
   obtain ⟨W6, hW6⟩ : ∃ W6, W6 = w5.alloc (.cells #[.int .i64 0, .string emptyS, .slice none 0 0] 27) := ⟨_, rfl⟩
   have hf6 : Fr [] w5 W6 := by rw [hW6]; exact frx
   have hF6 := hF5.trans hf6
   have hB6 := hB5.fr hf6 (by simp)
   have r0 : W6.cell? ⟨w.heap.size + 1 + 1, 0, none⟩ = some (.bool false) := hB6.cell 0 rfl
   have r1 : W6.cell? ⟨w.heap.size + 1 + 1, 1, none⟩ = some (.int .i64 0) := hB6.cell 1 rfl
   have r2 : W6.cell? ⟨w.heap.size + 1 + 1, 2, none⟩ = some (.string emptyS) := hB6.cell 2 rfl
   have r3 : W6.cell? ⟨w.heap.size + 1 + 1, 3, none⟩ = some (.slice none 0 0) := hB6.cell 3 rfl
   have v0 := hB6.frozen 0
   have v1 := hB6.frozen 1
   have v2 := hB6.frozen 2
   have v3 := hB6.frozen 3
   rw [hW6] at r0 r1 r2 r3 v0 v1 v2 v3
   have HW6 := Lib.hid hW6.symm
   clear hW6
   go_wp2_with fail
   rw [HW6.out]
   refine bodyPost_ret (results_tq rfl _ _ (w.heap.size + 1 + 1) rfl ((((hB6.set_ 0 (.bool false)).set_ 1 (.int .i64 0)).set_ 2 (.string emptyS)).set_ 3 (.slice none 0 0))) rfl ?_
   rw [hRes.out]
   exact ⟨none, 0, rfl, hstore _ _ _ _ _ _ _ hF6, zeroT_at _ _ _⟩
  ·have hr3 := HR.out
   rw [if_neg h4] at hr3
   have HR3 := Lib.hid hr3
   have h4' : ans.length ≤ 4096 := Nat.le_of_not_lt h4
   clear hr3
   rcases full with q | ⟨⟨er, t'⟩, u, kn⟩
   ·have hRes : Hid (r = ((false, q), 0)) := HR3.out
    have hrun := run_askT 1024 W3 D dd ans 28 #[.pointer (some ⟨w.heap.size, 0, none⟩), .pointer (some ⟨w2.heap.size, 0, none⟩)] [w2.heap.size] (by simp; omega) q hD3 h4' HENT.out (fun wx hat => (HT1.out wx hat).mono fun e w' h => by
     obtain ⟨D2, d2, he, hr, hf⟩ := h
     exact ⟨D2, d2, he, hr.sub fun k _ hk => .inr ⟨by omega, by omega⟩, hf⟩)
    have HRUN := Lib.hid hrun
    clear hrun
    go_wp2_with fail
    rw [HW3.out]
    refine HRUN.out.mono ?_
    rintro e w5 ⟨D2, d2, rfl, hRq, hf5⟩
    have hqok := Tr.all_go _ _ (treeT_all G htok) hfull
    have hqn := hqok.few
    have hF5 : Fr [] w w5 := hF3.trans2 hf5 (List.forall_mem_singleton.2 (.inr (by omega)))
    have hB5 := hB3.fr hf5 (by simp; omega)
    obtain ⟨W6, hW6⟩ : ∃ W6, W6 = w5.alloc (.cells #[.int .i64 q.kind, .string q.text, .slice D2 q.slots.length d2] 27) := ⟨_, rfl⟩
    have hf6 : Fr [] w5 W6 := by rw [hW6]; exact frx
    have hF6 := hF5.trans hf6
    have hB6 := hB5.fr hf6 (by simp)
    have hBa : Blk W6 w5.heap.size 27 #[.int .i64 q.kind, .string q.text, .slice D2 q.slots.length d2] := by rw [hW6]; exact Blk.new _ _ _ _ rfl
    have y0 : W6.cell? ⟨w5.heap.size, 0, none⟩ = some (.int .i64 q.kind) := hBa.cell 0 rfl
    have y1 : W6.cell? ⟨w5.heap.size, 1, none⟩ = some (.string q.text) := hBa.cell 1 rfl
    have y2 : W6.cell? ⟨w5.heap.size, 2, none⟩ = some (.slice D2 q.slots.length d2) := hBa.cell 2 rfl
    rw [hW6] at y0 y1 y2
    have HW6 := Lib.hid hW6.symm
    clear hW6
    go_wp2_with fail
    rw [HW6.out]
    clear y0 y1 y2
    refine (twin_any g G.ro 1024 q D2 d2 _ W6 (hRq.fr0 hf6) hqok.val (by omega)).mono ?_
    rintro e w7 ⟨D7, d7, rfl, hf7, hR7⟩
    have hF7 := hF6.trans hf7
    have hB7 := hB6.fr hf7 (by simp)
    have r0 : w7.cell? ⟨w.heap.size + 1 + 1, 0, none⟩ = some (.bool false) := hB7.cell 0 rfl
    have r1 : w7.cell? ⟨w.heap.size + 1 + 1, 1, none⟩ = some (.int .i64 0) := hB7.cell 1 rfl
    have r2 : w7.cell? ⟨w.heap.size + 1 + 1, 2, none⟩ = some (.string emptyS) := hB7.cell 2 rfl
    have r3 : w7.cell? ⟨w.heap.size + 1 + 1, 3, none⟩ = some (.slice none 0 0) := hB7.cell 3 rfl
    have v0 := hB7.frozen 0
    have v1 := hB7.frozen 1
    have v2 := hB7.frozen 2
    have v3 := hB7.frozen 3
    go_wp2_with fail
    refine bodyPost_ret (results_tq rfl _ _ (w.heap.size + 1 + 1) rfl ((((hB7.set_ 0 (.bool false)).set_ 1 (.int .i64 q.kind)).set_ 2 (.string q.text)).set_ 3 (.slice D7 q.slots.length d7))) rfl ?_
    rw [hRes.out]
    have hfs : Fr [w.heap.size + 2] w7 ((((w7.setCell ⟨w.heap.size + 2, 0, none⟩ (.bool false)).setCell ⟨w.heap.size + 2, 1, none⟩ (.int .i64 q.kind)).setCell ⟨w.heap.size + 2, 2, none⟩ (.string q.text)).setCell ⟨w.heap.size + 2, 3, none⟩ (.slice D7 q.slots.length d7)) := ((((Fr.refl _ w7).setCell (.inl (by simp)) _).setCell (.inl (by simp)) _).setCell (.inl (by simp)) _).setCell (.inl (by simp)) _
    exact ⟨D7, d7, rfl, hstore _ _ _ _ _ _ _ hF7, (hR7.fr hfs (List.forall_mem_singleton.2 (show w.heap.size + 2 < W6.heap.size by have := hf6.size; have := hf5.size; omega))).sub fun k _ hk => Nat.lt_of_lt_of_le hk hF6.size⟩
   ·have hrun := run_endT W3 D dd ans 28 #[.pointer (some ⟨w.heap.size, 0, none⟩), .pointer (some ⟨w2.heap.size, 0, none⟩)] [w2.heap.size] (by simp; omega) (fun wd => ∃ A3 c3, Blk wd w2.heap.size 27 #[.int .i64 t'.kind, .string t'.text, .slice A3 t'.slots.length c3] ∧ RH (RunF w2.heap.size W3.heap.size) 1024 wd A3 c3 t') er u hD3 h4' HENT.out (fun wx hat => (HT1.out wx hat).mono fun e w' h => by
     obtain ⟨he, hs, hf, A3, c3, hb, hr⟩ := h
     exact ⟨he, hs, hf, A3, c3, hb, hr⟩)
    have HRUN := Lib.hid hrun
    clear hrun
    by_cases her : er = 0
    ·subst her
     by_cases hu : u < ans.length
     ·have hRes : Hid (r = ((false, zeroT), 8)) := by show _ = _; rw [HR3.out, fin_more hu]
      have HU := Lib.hid hu
      clear hu
      go_wp2_with fail
      rw [HW3.out]
      refine HRUN.out.mono ?_
      rintro e w5 ⟨he, hf5, wd, _, hfd⟩
      rw [show decide ((0 : Int) = 0 ∧ ans.length ≤ u) = false from by have := HU.out; simp; omega, if_neg (by simp), if_pos HU.out] at he
      subst he
      have hF5 : Fr [] w w5 := hF3.trans2 hf5 (List.forall_mem_singleton.2 (.inr (by omega)))
      have hB5 := hB3.fr hf5 (by simp; omega)
      obtain ⟨W6, hW6⟩ : ∃ W6, W6 = w5.alloc (.cells #[.int .i64 0, .string emptyS, .slice none 0 0] 27) := ⟨_, rfl⟩
      have hf6 : Fr [] w5 W6 := by rw [hW6]; exact frx
      have hF6 := hF5.trans hf6
      have hB6 := hB5.fr hf6 (by simp)
      have r0 : W6.cell? ⟨w.heap.size + 1 + 1, 0, none⟩ = some (.bool false) := hB6.cell 0 rfl
      have r1 : W6.cell? ⟨w.heap.size + 1 + 1, 1, none⟩ = some (.int .i64 0) := hB6.cell 1 rfl
      have r2 : W6.cell? ⟨w.heap.size + 1 + 1, 2, none⟩ = some (.string emptyS) := hB6.cell 2 rfl
      have r3 : W6.cell? ⟨w.heap.size + 1 + 1, 3, none⟩ = some (.slice none 0 0) := hB6.cell 3 rfl
      have v0 := hB6.frozen 0
      have v1 := hB6.frozen 1
      have v2 := hB6.frozen 2
      have v3 := hB6.frozen 3
      rw [hW6] at r0 r1 r2 r3 v0 v1 v2 v3
      have HW6 := Lib.hid hW6.symm
      clear hW6
      go_wp2_with fail
      rw [HW6.out]
      refine bodyPost_ret (results_tq rfl _ _ (w.heap.size + 1 + 1) rfl ((((hB6.set_ 0 (.bool false)).set_ 1 (.int .i64 0)).set_ 2 (.string emptyS)).set_ 3 (.slice none 0 0))) rfl ?_
      rw [hRes.out]
      exact ⟨none, 0, rfl, hstore _ _ _ _ _ _ _ hF6, zeroT_at _ _ _⟩
     ·have hRes : Hid (r = ((true, t'), 0)) := by show _ = _; rw [HR3.out, fin_done hu]
      have HU := Lib.hid hu
      clear hu
      go_wp2_with fail
      rw [HW3.out]
      refine HRUN.out.mono ?_
      rintro e w5 ⟨he, hf5, wd, ⟨A3, c3, hbd, hrd⟩, hfd⟩
      rw [show decide ((0 : Int) = 0 ∧ ans.length ≤ u) = true from by have := HU.out; simp; omega, if_neg (by simp), if_neg HU.out] at he
      subst he
      have hqok : TOk g 256 t' := Tr.ends_go (P := fun r : Int × T => TOk g 256 r.2) _ _ (treeT_ends G htok) hfull
      have hqn := hqok.few
      have hF5 : Fr [] w w5 := hF3.trans2 hf5 (List.forall_mem_singleton.2 (.inr (by omega)))
      have hB5 := hB3.fr hf5 (by simp; omega)
      have hBd := hbd.fr hfd (by simp; omega)
      have hR5 : RH (RunF w2.heap.size W3.heap.size) 1024 w5 A3 c3 t' := hrd.fr hfd (List.forall_mem_singleton.2 (.inr ⟨by omega, by omega⟩))
      obtain ⟨W6, hW6⟩ : ∃ W6, W6 = w5.alloc (.cells #[.int .i64 0, .string emptyS, .slice none 0 0] 27) := ⟨_, rfl⟩
      have hf6 : Fr [] w5 W6 := by rw [hW6]; exact frx
      have hF6 := hF5.trans hf6
      have hB6 := hB5.fr hf6 (by simp)
      have hBa := hBd.fr hf6 (by simp)
      have y0 : W6.cell? ⟨w2.heap.size, 0, none⟩ = some (.int .i64 t'.kind) := hBa.cell 0 rfl
      have y1 : W6.cell? ⟨w2.heap.size, 1, none⟩ = some (.string t'.text) := hBa.cell 1 rfl
      have y2 : W6.cell? ⟨w2.heap.size, 2, none⟩ = some (.slice A3 t'.slots.length c3) := hBa.cell 2 rfl
      rw [hW6] at y0 y1 y2
      have HW6 := Lib.hid hW6.symm
      clear hW6
      go_wp2_with fail
      rw [HW6.out]
      clear y0 y1 y2
      refine (twin_any g G.ro 1024 t' A3 c3 _ W6 (hR5.fr0 hf6) hqok.val (by omega)).mono ?_
      rintro e w7 ⟨D7, d7, rfl, hf7, hR7⟩
      have hF7 := hF6.trans hf7
      have hB7 := hB6.fr hf7 (by simp)
      have r0 : w7.cell? ⟨w.heap.size + 1 + 1, 0, none⟩ = some (.bool false) := hB7.cell 0 rfl
      have r1 : w7.cell? ⟨w.heap.size + 1 + 1, 1, none⟩ = some (.int .i64 0) := hB7.cell 1 rfl
      have r2 : w7.cell? ⟨w.heap.size + 1 + 1, 2, none⟩ = some (.string emptyS) := hB7.cell 2 rfl
      have r3 : w7.cell? ⟨w.heap.size + 1 + 1, 3, none⟩ = some (.slice none 0 0) := hB7.cell 3 rfl
      have v0 := hB7.frozen 0
      have v1 := hB7.frozen 1
      have v2 := hB7.frozen 2
      have v3 := hB7.frozen 3
      go_wp2_with fail
      refine bodyPost_ret (results_tq rfl _ _ (w.heap.size + 1 + 1) rfl ((((hB7.set_ 0 (.bool true)).set_ 1 (.int .i64 t'.kind)).set_ 2 (.string t'.text)).set_ 3 (.slice D7 t'.slots.length d7))) rfl ?_
      rw [hRes.out]
      have hfs : Fr [w.heap.size + 2] w7 ((((w7.setCell ⟨w.heap.size + 2, 0, none⟩ (.bool true)).setCell ⟨w.heap.size + 2, 1, none⟩ (.int .i64 t'.kind)).setCell ⟨w.heap.size + 2, 2, none⟩ (.string t'.text)).setCell ⟨w.heap.size + 2, 3, none⟩ (.slice D7 t'.slots.length d7)) := ((((Fr.refl _ w7).setCell (.inl (by simp)) _).setCell (.inl (by simp)) _).setCell (.inl (by simp)) _).setCell (.inl (by simp)) _
      exact ⟨D7, d7, rfl, hstore _ _ _ _ _ _ _ hF7, (hR7.fr hfs (List.forall_mem_singleton.2 (show w.heap.size + 2 < W6.heap.size by have := hf6.size; have := hf5.size; omega))).sub fun k _ hk => Nat.lt_of_lt_of_le hk hF6.size⟩
    ·have hRes : Hid (r = ((false, zeroT), er)) := by show _ = _; rw [HR3.out, fin_err her]
     have heb : (er != 0) = true := by simpa using her
     have hE1 : decide (er = 0 ∧ ans.length ≤ u) = false := by simp; intro h; exact absurd h her
     have hE2 : (if er ≠ 0 then er else if u < ans.length then 8 else 0) = er := if_pos her
     have HE1 := Lib.hid hE1
     have HE2 := Lib.hid hE2
     clear her hE1 hE2
     go_wp2_with fail
     rw [HW3.out]
     refine HRUN.out.mono ?_
     rintro e w5 ⟨he, hf5, wd, _, hfd⟩
     rw [HE1.out, HE2.out] at he
     subst he
     have hF5 : Fr [] w w5 := hF3.trans2 hf5 (List.forall_mem_singleton.2 (.inr (by omega)))
     have hB5 := hB3.fr hf5 (by simp; omega)
     obtain ⟨W6, hW6⟩ : ∃ W6, W6 = w5.alloc (.cells #[.int .i64 0, .string emptyS, .slice none 0 0] 27) := ⟨_, rfl⟩
     have hf6 : Fr [] w5 W6 := by rw [hW6]; exact frx
     have hF6 := hF5.trans hf6
     have hB6 := hB5.fr hf6 (by simp)
     have r0 : W6.cell? ⟨w.heap.size + 1 + 1, 0, none⟩ = some (.bool false) := hB6.cell 0 rfl
     have r1 : W6.cell? ⟨w.heap.size + 1 + 1, 1, none⟩ = some (.int .i64 0) := hB6.cell 1 rfl
     have r2 : W6.cell? ⟨w.heap.size + 1 + 1, 2, none⟩ = some (.string emptyS) := hB6.cell 2 rfl
     have r3 : W6.cell? ⟨w.heap.size + 1 + 1, 3, none⟩ = some (.slice none 0 0) := hB6.cell 3 rfl
     have v0 := hB6.frozen 0
     have v1 := hB6.frozen 1
     have v2 := hB6.frozen 2
     have v3 := hB6.frozen 3
     rw [hW6] at r0 r1 r2 r3 v0 v1 v2 v3
     have HW6 := Lib.hid hW6.symm
     clear hW6
     go_wp2_with fail
     rw [HW6.out]
     refine bodyPost_ret (results_tq rfl _ _ (w.heap.size + 1 + 1) rfl ((((hB6.set_ 0 (.bool false)).set_ 1 (.int .i64 0)).set_ 2 (.string emptyS)).set_ 3 (.slice none 0 0))) rfl ?_
     rw [hRes.out]
     exact ⟨none, 0, rfl, hstore _ _ _ _ _ _ _ hF6, zeroT_at _ _ _⟩
 ·have hRes : Hid (r = ((false, zeroT), chkT g L t)) := by show _ = _; rw [← hr]; exact if_pos hez
  have hd : (chkT g L t != 0) = true := by simpa using hez
  have hez := Lib.hid hez
  generalize chkT g L t = ev at *
  have r0 : w1.cell? ⟨w.heap.size + 1 + 1, 0, none⟩ = some (.bool false) := hB3.cell 0 rfl
  have r1 : w1.cell? ⟨w.heap.size + 1 + 1, 1, none⟩ = some (.int .i64 0) := hB3.cell 1 rfl
  have r2 : w1.cell? ⟨w.heap.size + 1 + 1, 2, none⟩ = some (.string emptyS) := hB3.cell 2 rfl
  have r3 : w1.cell? ⟨w.heap.size + 1 + 1, 3, none⟩ = some (.slice none 0 0) := hB3.cell 3 rfl
  have v0 := hB3.frozen 0
  have v1 := hB3.frozen 1
  have v2 := hB3.frozen 2
  have v3 := hB3.frozen 3
  clear hr
  go_wp2_with fail
  have hB4 := ((((hB3.set_ 0 (.bool false)).set_ 1 (.int .i64 0)).set_ 2 (.string emptyS)).set_ 3 (.slice none 0 0))
  refine bodyPost_ret (results_tq rfl _ _ (w.heap.size + 1 + 1) rfl hB4) rfl ?_
  rw [hRes.out]
  exact ⟨none, 0, rfl, hstore _ _ _ _ _ _ _ hF1, zeroT_at _ _ _⟩
end

/- Tree, asked to its end by an oracle of texts: plain. -/
section
open Go.RowKit
namespace Tr
section
variable {Q A α κ : Type} [DecidableEq κ]
def asksK (key : Q → κ) (o : κ → A) : Tr Q A α → List κ → List Q
 | .ret _, _ => []
 | .ask q k, ks => if key q ∈ ks then (k (o (key q))).asksK key o ks else q :: (k (o (key q))).asksK key o (ks ++ [key q])
theorem asksK_new (key : Q → κ) (o : κ → A) : ∀ (t : Tr Q A α) (ks : List κ), ∀ q ∈ t.asksK key o ks, key q ∉ ks
  | .ret _, ks, q, h => by simp [asksK] at h
  | .ask q0 k, ks, q, h => by
    rw [asksK] at h
    by_cases h0 : key q0 ∈ ks
    · rw [if_pos h0] at h; exact asksK_new key o _ ks q h
    · rw [if_neg h0] at h
      rcases List.mem_cons.1 h with rfl | h
      · exact h0
      · exact fun hq => asksK_new key o _ (ks ++ [key q0]) q h (by simp [hq])
theorem asksK_nodup (key : Q → κ) (o : κ → A) : ∀ (t : Tr Q A α) (ks : List κ), ((t.asksK key o ks).map key).Nodup
  | .ret _, ks => by simp [asksK]
  | .ask q0 k, ks => by
    rw [asksK]
    by_cases h0 : key q0 ∈ ks
    · rw [if_pos h0]; exact asksK_nodup key o _ ks
    · rw [if_neg h0, List.map_cons]
      refine List.nodup_cons.2 ⟨fun h => ?_, asksK_nodup key o _ _⟩
      obtain ⟨q, hq, hk⟩ := List.mem_map.1 h
      exact asksK_new key o _ _ q hq (by simp [hk])
theorem asksK_all (key : Q → κ) (o : κ → A) {P : Q → Prop} : ∀ (t : Tr Q A α) (ks : List κ), t.All P → ∀ q ∈ t.asksK key o ks, P q
  | .ret _, ks, _, q, h => by simp [asksK] at h
  | .ask q0 k, ks, hp, q, h => by
    rw [asksK] at h
    by_cases h0 : key q0 ∈ ks
    · rw [if_pos h0] at h; exact asksK_all key o _ ks (hp.2 _) q h
    · rw [if_neg h0] at h
      rcases List.mem_cons.1 h with rfl | h
      · exact hp.1
      · exact asksK_all key o _ _ (hp.2 _) q h
theorem asksK_len (key : Q → κ) (o : κ → A) : ∀ (t : Tr Q A α) (ks : List κ), (t.asksK key o ks).length ≤ t.len fun q => o (key q)
  | .ret _, ks => Nat.zero_le _
  | .ask q0 k, ks => by
    rw [asksK]
    show _ ≤ 1 + (k (o (key q0))).len _
    split
    · have := asksK_len key o (k (o (key q0))) ks
      omega
    · have := asksK_len key o (k (o (key q0))) (ks ++ [key q0])
      rw [List.length_cons]
      omega
end
end Tr
section
variable {α : Type} {g : List Ru}
theorem lookup_saidT (o : Bs → Int) (q : Bs) : ∀ ks : List Bs, @List.lookup Bs Int instBEqOfDecidableEq q (ks.map fun k => (k, o k)) = if q ∈ ks then some (o q) else none
  | [] => rfl
  | k :: ks => by
    show (match @BEq.beq Bs instBEqOfDecidableEq q k with | true => some (o k) | false => @List.lookup Bs Int instBEqOfDecidableEq q (ks.map fun k => (k, o k))) = _
    by_cases h : q = k
    · subst h
      have : (@BEq.beq Bs instBEqOfDecidableEq q q) = true := decide_eq_true rfl
      rw [this]; simp
    · have : (@BEq.beq Bs instBEqOfDecidableEq q k) = false := decide_eq_false h
      rw [this]
      show @List.lookup Bs Int instBEqOfDecidableEq q (ks.map fun k => (k, o k)) = _
      rw [lookup_saidT o q ks]
      simp [h]
def saidT (o : Bs → Int) (ks : List Bs) : KnT := ks.map fun k => (k, o k)
theorem go_stopT (o : Bs → Int) (ho : ∀ q, told (o q) = o q) (q0 : T) (rest : List T) :
    ∀ (t : Tr T Int α) (ks : List Bs) (more : List T), t.asksK (textL g) o ks = more ++ q0 :: rest → t.go (askST g ((ks ++ more.map (textL g)).map o)) (ks.length, saidT o ks) = .inl q0
  | .ret _, ks, more, h => by simp [Tr.asksK] at h
  | .ask q k, ks, more, h => by
    rw [Tr.asksK] at h
    by_cases h0 : textL g q ∈ ks
    · rw [if_pos h0] at h
      rw [Tr.go_some (v := o (textL g q)) (s' := (ks.length, saidT o ks)) (askS_someT (askV_knownT (by unfold saidT; rw [lookup_saidT, if_pos h0])))]
      exact go_stopT o ho q0 rest _ ks more h
    · rw [if_neg h0] at h
      have hl : @List.lookup Bs Int instBEqOfDecidableEq (textL g q) (saidT o ks) = none := by unfold saidT; rw [lookup_saidT, if_neg h0]
      rcases more with _ | ⟨m, more⟩
      · simp only [List.nil_append, List.cons.injEq] at h
        rw [← h.1]
        exact Tr.go_none (askS_noneT (askV_askT hl (by simp)))
      · simp only [List.cons_append, List.cons.injEq] at h
        obtain ⟨rfl, h⟩ := h
        have hg : askVT ((ks ++ (q :: more).map (textL g)).map o) ks.length (saidT o ks) (textL g q) = some (told (o (textL g q)), ks.length + 1, saidT o ks ++ [(textL g q, told (o (textL g q)))]) := askV_gotT hl (by simp)
        rw [Tr.go_some (askS_someT hg), ho]
        have := go_stopT o ho q0 rest _ (ks ++ [textL g q]) more h
        simpa [saidT] using this
theorem go_wholeT (o : Bs → Int) (ho : ∀ q, told (o q) = o q) :
    ∀ (t : Tr T Int α) (ks : List Bs), t.go (askST g ((ks ++ (t.asksK (textL g) o ks).map (textL g)).map o)) (ks.length, saidT o ks) = .inr (t.res (fun q => o (textL g q)), ((ks ++ (t.asksK (textL g) o ks).map (textL g)).length, saidT o (ks ++ (t.asksK (textL g) o ks).map (textL g))))
  | .ret _, ks => by simp [Tr.asksK, Tr.go, Tr.res]
  | .ask q k, ks => by
    rw [Tr.asksK, Tr.res]
    by_cases h0 : textL g q ∈ ks
    · rw [if_pos h0, Tr.go_some (v := o (textL g q)) (s' := (ks.length, saidT o ks)) (askS_someT (askV_knownT (by unfold saidT; rw [lookup_saidT, if_pos h0])))]
      exact go_wholeT o ho _ ks
    · rw [if_neg h0]
      have hl : @List.lookup Bs Int instBEqOfDecidableEq (textL g q) (saidT o ks) = none := by unfold saidT; rw [lookup_saidT, if_neg h0]
      have hg : askVT ((ks ++ (q :: (k (o (textL g q))).asksK (textL g) o (ks ++ [textL g q])).map (textL g)).map o) ks.length (saidT o ks) (textL g q) = some (told (o (textL g q)), ks.length + 1, saidT o ks ++ [(textL g q, told (o (textL g q)))]) := askV_gotT hl (by simp)
      rw [Tr.go_some (askS_someT hg), ho]
      have := go_wholeT o ho (k (o (textL g q))) (ks ++ [textL g q])
      simpa [saidT] using this
end
def lawQ (g : List Ru) (L : List Int) (t : T) (o : Bs → Int) : List T := (treeT g L t).asksK (textL g) o []
section
variable {g : List Ru} {L : List Int} {t : T} {o : Bs → Int}
theorem lawQ_nodup : ((lawQ g L t o).map (textL g)).Nodup := Tr.asksK_nodup _ _ _ _
theorem lawQ_ok (G : GOk g L) (ht : TOk g 14 t) : ∀ q ∈ lawQ g L t o, TOk g 14 q := Tr.asksK_all _ _ _ _ (treeT_all G ht)
theorem tree_len (G : GOk g L) (ht : TOk g 14 t) : (treeT g L t).len (fun q => o (textL g q)) ≤ 4001 := by
 have e : (treeT g L t).len (fun q => o (textL g q)) = 1 + (if o (textL g t) = 2 then roundsT g L (t.nodes + 1) t else .ret (7, t) : Tr T Int (Int × T)).len fun q => o (textL g q) := rfl
 rw [e]
 have hn := ht.few
 by_cases h : o (textL g t) = 2
 ·rw [if_pos h]
  have h1 := (rounds_ok (O := fun q => o (textL g q)) G (t.nodes + 1) t ht (Nat.lt_succ_self _) h).2.2
  have h2 := sumV_mono hn
  have h3 := sumH_mono hn
  have h4 : sumK t.nodes ≤ sumK 14 := by
   rcases Nat.eq_or_lt_of_le hn with h | h
   ·rw [h]; exact Nat.le_refl _
   ·have := sumK_drop h; omega
  have h5 := total_14
  omega
 ·rw [if_neg h]
  show 1 + 0 ≤ _
  omega
theorem lawQ_len (G : GOk g L) (ht : TOk g 14 t) : (lawQ g L t o).length ≤ 4001 := Nat.le_trans (Tr.asksK_len _ _ _ _) (tree_len G ht)
theorem treeOf_in {ans : List Int} (h : chkT g L t = 0) (h4 : ans.length ≤ 4096) : treeOf g L t ans = finTq ans ((treeT g L t).go (askST g ans) (0, [])) := by
 unfold treeOf
 rw [if_neg (by simp [h]), if_neg (by omega)]
theorem lawQ_at (G : GOk g L) (ho : ∀ q, told (o q) = o q) (h : chkT g L t = 0) (ht : TOk g 14 t) {k : Nat} {q : T} (hq : (lawQ g L t o)[k]? = some q) : treeOf g L t ((((lawQ g L t o).map (textL g)).take k).map o) = ((false, q), 0) := by
 obtain ⟨hk, hqe⟩ := List.getElem?_eq_some_iff.1 hq
 have hle := lawQ_len (o := o) G ht
 rw [treeOf_in h (by simp; omega)]
 have e1 := (List.take_append_drop k (lawQ g L t o)).symm
 rw [List.drop_eq_getElem_cons hk, hqe] at e1
 have h2 := go_stopT (g := g) o ho q _ (treeT g L t) [] _ e1
 rw [← List.map_take]
 simp only [List.nil_append, List.length_nil, saidT, List.map_nil] at h2
 rw [h2]
 rfl
theorem lawQ_end (G : GOk g L) (ho : ∀ q, told (o q) = o q) (h : chkT g L t = 0) (ht : TOk g 14 t) :
  (o (textL g t) = 2 ∧ ∃ r, treeOf g L t (((lawQ g L t o).map (textL g)).map o) = ((true, r), 0) ∧ BareT g L (fun q => o (textL g q)) t r) ∨
  (o (textL g t) ≠ 2 ∧ (lawQ g L t o).length = 1 ∧ treeOf g L t (((lawQ g L t o).map (textL g)).map o) = ((false, zeroT), 7)) := by
 have hle := lawQ_len (o := o) G ht
 have hw := go_wholeT (g := g) o ho (treeT g L t) []
 simp only [List.nil_append, List.length_nil, saidT, List.map_nil] at hw
 have hin := treeOf_in (ans := ((lawQ g L t o).map (textL g)).map o) h (by simp; omega)
 rw [show (treeT g L t).asksK (textL g) o [] = lawQ g L t o from rfl] at hw
 rw [hw] at hin
 have er : (treeT g L t).res (fun q => o (textL g q)) = (if o (textL g t) = 2 then roundsT g L (t.nodes + 1) t else .ret (7, t) : Tr T Int (Int × T)).res fun q => o (textL g q) := rfl
 by_cases h2 : o (textL g t) = 2
 ·rw [if_pos h2] at er
  obtain ⟨r1, r2, _⟩ := rounds_ok (O := fun q => o (textL g q)) G (t.nodes + 1) t ht (Nat.lt_succ_self _) h2
  rw [← er] at r1 r2
  refine .inl ⟨h2, ((treeT g L t).res fun q => o (textL g q)).2, ?_, r2⟩
  rw [hin, ← Prod.eta ((treeT g L t).res fun q => o (textL g q)), r1]
  exact fin_done (by simp)
 ·rw [if_neg h2] at er
  refine .inr ⟨h2, ?_, ?_⟩
  ·unfold lawQ treeT
   rw [Tr.asksK, if_neg (by simp), if_neg h2]
   rfl
  ·rw [hin, er]
   exact fin_err (by simp)
end
end

/- grammar and grows: the small grammar and the small tree of the laws. -/
section
open Go.RowKit
def RetGG (w : World) (e : Ending) (w' : World) : Prop := ∃ A, e = .returned (.agg #[.slice A 3 3]) ∧ Fr [] w w' ∧ RRu w' A 3 gG
theorem RSl.one {w : World} {g : Nat} {ty : TypeId} {s : Sl} {A : Option Addr} {c : Nat} (hb : Blk w g ty #[.int .u8 s.many, .slice A s.kinds.length c, .string s.between]) (hm : 0 ≤ s.many ∧ s.many ≤ 255) (hk : Rd w (.int .i64) A c s.kinds) : RSl w (some ⟨g, 0, none⟩) 1 [s] :=
  ⟨Nat.le_refl _, by unfold maxLen; omega, fun _ => ⟨g, 0, rfl, fun k x hx => by
    match k, hx with
    | 0, hx =>
      have hx : s = x := by simpa using hx
      subst hx
      exact ⟨hm, hb.cell 0 rfl, ⟨A, c, hb.cell 1 rfl, hk⟩, hb.cell 2 rfl⟩⟩⟩
theorem RSl.nil_ (w : World) : RSl w none 0 [] := ⟨Nat.le_refl _, by unfold maxLen; omega, fun h => by simp at h⟩
theorem results_gram {fn : Func} {p : Tmp} (h : fn.results = #[.cell p 24]) (tmps : Array Value) (w : World) (g : Nat) {a0 : Value} (hp : tmps.getD p undef = .pointer (some ⟨g, 0, none⟩)) (hb : Blk w g 24 #[a0]) :
  (results fn tmps).run Tryz.prog w = .ok (.agg #[a0]) w := by
 have c0 := hb.cell 0 rfl
 simp only [Array.getD_eq_getD_getElem?] at hp
 simp [results, h, go_sem, hp, c0]
set_option maxRecDepth 20000 in
set_option maxHeartbeats 3200000 in
theorem grammar_any (w : World) : Calls Tryz.prog 17 #[] w (RetGG w) := by
  go_enter Tryz.func17, Tryz.ntmps17
  go_wp2_with fail
  have h0 := (((((Blk.new w 24 #[.slice (some ⟨w.heap.size + 1 + 1 + 1 + 1 + 1, 0, none⟩) 3 3] _ rfl).alloc (.cells #[.int .i64 0, .int .i64 1, .int .i64 2] 3)).alloc (.cells #[.int .u8 2, .slice (some ⟨w.heap.size + 1, 0, none⟩) 3 3, .string ⟨#[43]⟩] 55)).alloc (.cells #[.int .i64 0, .int .i64 1] 3)).alloc (.cells #[.int .u8 0, .slice (some ⟨w.heap.size + 1 + 1 + 1, 0, none⟩) 2 2, .string ⟨#[]⟩] 55)).alloc (.cells #[.string ⟨#[40]⟩, .string ⟨#[41]⟩, .bool false, .slice (some ⟨w.heap.size + 1 + 1, 0, none⟩) 1 1, .string ⟨#[]⟩, .string ⟨#[]⟩, .bool true, .slice none 0 0, .string ⟨#[45]⟩, .string ⟨#[]⟩, .bool false, .slice (some ⟨w.heap.size + 1 + 1 + 1 + 1, 0, none⟩) 1 1] 51)
  have hF : Fr [] w ((((((w.alloc (.cells #[.slice (some ⟨w.heap.size + 1 + 1 + 1 + 1 + 1, 0, none⟩) 3 3] 24)).alloc (.cells #[.int .i64 0, .int .i64 1, .int .i64 2] 3)).alloc (.cells #[.int .u8 2, .slice (some ⟨w.heap.size + 1, 0, none⟩) 3 3, .string ⟨#[43]⟩] 55)).alloc (.cells #[.int .i64 0, .int .i64 1] 3)).alloc (.cells #[.int .u8 0, .slice (some ⟨w.heap.size + 1 + 1 + 1, 0, none⟩) 2 2, .string ⟨#[]⟩] 55)).alloc (.cells #[.string ⟨#[40]⟩, .string ⟨#[41]⟩, .bool false, .slice (some ⟨w.heap.size + 1 + 1, 0, none⟩) 1 1, .string ⟨#[]⟩, .string ⟨#[]⟩, .bool true, .slice none 0 0, .string ⟨#[45]⟩, .string ⟨#[]⟩, .bool false, .slice (some ⟨w.heap.size + 1 + 1 + 1 + 1, 0, none⟩) 1 1] 51)) := frx
  refine bodyPost_ret (results_gram rfl _ _ w.heap.size rfl h0) rfl ?_
  refine ⟨_, rfl, hF, Nat.le_refl _, by unfold maxLen; decide, fun _ => ⟨_, 0, rfl, fun k r hr => ?_⟩⟩
  have hB : ∀ (w : World) (o : Obj) (g : Nat) (ty : TypeId) (cs : Array Value), Blk w g ty cs → Blk (w.alloc o) g ty cs := fun w o g ty cs h => h.alloc _
  match k, hr with
  | 0, hr =>
    obtain rfl := Option.some.inj hr
    refine ⟨by simp [go_sem], by simp [go_sem], by simp [go_sem], some ⟨w.heap.size + 1 + 1, 0, none⟩, 1, by simp [go_sem], ?_⟩
    refine RSl.one (s := ⟨2, [0, 1, 2], ⟨#[43]⟩⟩) (A := some ⟨w.heap.size + 1, 0, none⟩) (c := 3) (ty := 55) ?_ (by decide) ?_
    · exact (((Blk.new _ _ _ _ (by simp)).alloc _).alloc _).alloc _
    · exact ((((Rd.lit _ _ (.int .i64) [0, 1, 2] _ (by simp) (by simp)).alloc _).alloc _).alloc _).alloc _
  | 1, hr =>
    obtain rfl := Option.some.inj hr
    exact ⟨by simp [go_sem], by simp [go_sem], by simp [go_sem], none, 0, by simp [go_sem], RSl.nil_ _⟩
  | 2, hr =>
    obtain rfl := Option.some.inj hr
    refine ⟨by simp [go_sem], by simp [go_sem], by simp [go_sem], some ⟨w.heap.size + 1 + 1 + 1 + 1, 0, none⟩, 1, by simp [go_sem], ?_⟩
    refine RSl.one (s := ⟨0, [0, 1], emptyS⟩) (A := some ⟨w.heap.size + 1 + 1 + 1, 0, none⟩) (c := 2) (ty := 55) ?_ (by decide) ?_
    · exact (Blk.new _ _ _ _ (by simp)).alloc _
    · exact ((Rd.lit _ _ (.int .i64) [0, 1] _ (by simp) (by simp)).alloc _).alloc _
  | k + 3, hr => cases hr
end

/- grows: the small tree of the laws is as the chapter says. -/
section
open Go.RowKit
section
variable {A B : Option Addr} {c n : Nat} {S : Nat → Prop} {W : World}
theorem RowAt.blk1 {g : Nat} {ty : TypeId} {x : T} (hb : Blk W g ty #[.int .i64 x.kind, .string x.text, .slice A x.slots.length c]) (hS : ¬ S g) (h : RH S n W A c x) : RowAt S n W (some ⟨g, 0, none⟩) 1 [x] :=
  ⟨Nat.le_refl _, by unfold maxLen; omega, fun _ => ⟨g, 0, rfl, hS, fun k y hy => by
    match k, hy with
    | 0, hy =>
      have hy : x = y := by simpa using hy
      subst hy
      exact ⟨hb.cell 0 rfl, hb.cell 1 rfl, A, c, hb.cell 2 rfl, h⟩⟩⟩
theorem RowAt.blk2 {g c' : Nat} {A' : Option Addr} {ty : TypeId} {x y : T} (hb : Blk W g ty #[.int .i64 x.kind, .string x.text, .slice A x.slots.length c, .int .i64 y.kind, .string y.text, .slice A' y.slots.length c']) (hS : ¬ S g) (h : RH S n W A c x) (h' : RH S n W A' c' y) : RowAt S n W (some ⟨g, 0, none⟩) 2 [x, y] :=
  ⟨Nat.le_refl _, by unfold maxLen; omega, fun _ => ⟨g, 0, rfl, hS, fun k z hz => by
    match k, hz with
    | 0, hz =>
      have hz : x = z := by simpa using hz
      subst hz
      exact ⟨hb.cell 0 rfl, hb.cell 1 rfl, A, c, hb.cell 2 rfl, h⟩
    | 1, hz =>
      have hz : y = z := by simpa using hz
      subst hz
      exact ⟨hb.cell 3 rfl, hb.cell 4 rfl, A', c', hb.cell 5 rfl, h'⟩⟩⟩
theorem RH.blk1 {g : Nat} {ty : TypeId} {k : Int} {x : ByteArray} {r : List T} (hb : Blk W g ty #[.slice A r.length c]) (hS : ¬ S g) (h : RowAt S n W A c r) : RH S (n + 1) W (some ⟨g, 0, none⟩) 1 (T.mk k x [r]) :=
  show RowsB S _ W (some ⟨g, 0, none⟩) 1 [r] from ⟨Nat.le_refl _, by unfold maxLen; omega, fun _ => ⟨g, 0, rfl, hS, fun k z hz => by
    match k, hz with
    | 0, hz =>
      have hz : r = z := by simpa using hz
      subst hz
      exact ⟨A, c, hb.cell 0 rfl, h⟩⟩⟩
theorem RH.leaf {k : Int} {x : ByteArray} : RH S (n + 1) W none 0 (T.mk k x []) :=
 show RowsB S _ W none 0 [] from ⟨Nat.le_refl _, by unfold maxLen; omega, fun h => by simp at h⟩
theorem g_print (ha : RRu W A 3 gG) (ht : RH S n W B c tG) : Calls Tryz.prog 18 #[.agg #[.slice A 3 3], .agg #[.int .i64 0, .string ⟨#[]⟩, .slice B 1 c]] W (RetV W (.tuple #[.string ⟨#[40, 55, 43, 45, 56, 41]⟩, .int .i64 0])) := by
 have h := Print_any A 3 gG LG n tG _ S W ha (fun _ => lok_G) ⟨B, c, rfl, ht⟩ (by rw [ex_nodes]; decide)
 rw [ex_p1] at h
 exact h
theorem g_print2 (ha : RRu W A 3 gG) (ht : RH S n W B c uG) : Calls Tryz.prog 18 #[.agg #[.slice A 3 3], .agg #[.int .i64 0, .string ⟨#[]⟩, .slice B 1 c]] W (RetV W (.tuple #[.string ⟨#[40, 55, 41]⟩, .int .i64 0])) := by
 have h := Print_any A 3 gG LG n uG _ S W ha (fun _ => lok_G) ⟨B, c, rfl, ht⟩ (by rw [ex_nodes3]; decide)
 rw [ex_p2] at h
 exact h
theorem g_nodes (ht : RH S n W B c tG) : Calls Tryz.prog 23 #[.agg #[.int .i64 0, .string ⟨#[]⟩, .slice B 1 c]] W (RetV W (.int .i64 4)) := by
 have h := Nodes_any n tG _ S W ⟨B, c, rfl, ht⟩ (by rw [ex_nodes]; decide)
 rw [ex_nodes] at h
 exact h
theorem g_nodes2 (ht : RH S n W B c xG) : Calls Tryz.prog 23 #[.agg #[.int .i64 2, .string ⟨#[]⟩, .slice B 1 c]] W (RetV W (.int .i64 2)) := by
 have h := Nodes_any n xG _ S W ⟨B, c, rfl, ht⟩ (by rw [ex_nodes2]; decide)
 rw [ex_nodes2] at h
 exact h
theorem g_can (ha : RRu W A 3 gG) (ht : RH S n W B c tG) : Calls Tryz.prog 19 #[.agg #[.slice A 3 3], .agg #[.int .i64 0, .string ⟨#[]⟩, .slice B 1 c]] W fun e w' => ∃ A c, e = .returned (.tuple #[.slice A 2 c, .int .i64 0]) ∧ Fr [] W w' ∧ Rd w' (.int .i64) A c [1, 2] := by
 have h := Prunable_any A 3 gG LG n tG _ S W ha (fun _ => lok_G) ⟨B, c, rfl, ht⟩ (by rw [ex_nodes]; decide)
 rw [ex_can] at h
 refine Calls.mono h ?_
 rintro e w' ⟨A, c, rfl, hf, ho⟩
 exact ⟨A, c, rfl, hf, (Rd.of_own ho).2⟩
theorem g_prune {D : Option Addr} {d : Nat} (ha : RRu W A 3 gG) (ht : RH S n W B c tG) (hd : Rd W (.int .i64) D d [2]) : Calls Tryz.prog 20 #[.agg #[.slice A 3 3], .agg #[.int .i64 0, .string ⟨#[]⟩, .slice B 1 c], .slice D 1 d] W fun e w' => ∃ A c, e = .returned (.tuple #[.agg #[.int .i64 0, .string ⟨#[]⟩, .slice A 1 c], .int .i64 0]) ∧ Fr [] W w' ∧ RH (fun k => k < W.heap.size) (n + 1024) w' A c uG := by
 have h := Prune_any A D 3 d gG LG n tG _ S [2] W ha (fun _ => lok_G) ⟨B, c, rfl, ht⟩ (by rw [ex_nodes]; decide) hd
 rw [ex_prune] at h
 exact h
theorem g_least (ha : RRu W A 3 gG) : Calls Tryz.prog 21 #[.agg #[.slice A 3 3], .int .i64 2] W fun e w' => ∃ A c, e = .returned (.tuple #[.agg #[.int .i64 2, .string ⟨#[]⟩, .slice A 1 c], .int .i64 0]) ∧ Fr [] W w' ∧ RH (fun k => k < W.heap.size) 1025 w' A c xG := by
 have h := Least_any A 3 gG LG 2 W ha (fun _ => lok_G)
 rw [ex_least] at h
 exact h
end
set_option maxRecDepth 100000 in
set_option maxHeartbeats 3200000 in
theorem grows_any (w : World) (htab : Tab w) : Calls Tryz.prog 8 #[] w (RetV w (.bool true)) := by
 go_enter Tryz.func8, Tryz.ntmps8
 go_wp2_with fail
 refine (grammar_any _).mono ?_
 rintro e w1 ⟨A, rfl, hf1, hg1⟩
 go_wp2_with fail
 obtain ⟨W, hW⟩ : ∃ W, W = (((((w1.alloc (.cells #[.slice A 3 3] 24)).alloc (.cells #[.int .i64 1, .string ⟨#[56]⟩, .slice none 0 0] 27)).alloc (.cells #[.slice (some ⟨w1.heap.size + 1, 0, none⟩) 1 1] 59)).alloc (.cells #[.int .i64 1, .string ⟨#[55]⟩, .slice none 0 0, .int .i64 2, .string ⟨#[]⟩, .slice (some ⟨w1.heap.size + 1 + 1, 0, none⟩) 1 1] 27)).alloc (.cells #[.slice (some ⟨w1.heap.size + 1 + 1 + 1, 0, none⟩) 2 2] 59)).alloc (.cells #[.int .i64 0, .string ⟨#[]⟩, .slice (some ⟨w1.heap.size + 1 + 1 + 1 + 1, 0, none⟩) 1 1] 27) := ⟨_, rfl⟩
 have hFW : Fr [] w1 W := by rw [hW]; exact frx
 have b0 : Blk W w1.heap.size 24 #[.slice A 3 3] := by rw [hW]; exact (((((Blk.new w1 _ _ _ rfl).alloc _).alloc _).alloc _).alloc _).alloc _
 have b1 : Blk W (w1.heap.size + 1) 27 #[.int .i64 1, .string ⟨#[56]⟩, .slice none 0 0] := by rw [hW]; exact ((((Blk.new _ _ _ _ (by simp)).alloc _).alloc _).alloc _).alloc _
 have b2 : Blk W (w1.heap.size + 1 + 1) 59 #[.slice (some ⟨w1.heap.size + 1, 0, none⟩) 1 1] := by rw [hW]; exact (((Blk.new _ _ _ _ (by simp)).alloc _).alloc _).alloc _
 have b3 : Blk W (w1.heap.size + 1 + 1 + 1) 27 #[.int .i64 1, .string ⟨#[55]⟩, .slice none 0 0, .int .i64 2, .string ⟨#[]⟩, .slice (some ⟨w1.heap.size + 1 + 1, 0, none⟩) 1 1] := by rw [hW]; exact ((Blk.new _ _ _ _ (by simp)).alloc _).alloc _
 have b4 : Blk W (w1.heap.size + 1 + 1 + 1 + 1) 59 #[.slice (some ⟨w1.heap.size + 1 + 1 + 1, 0, none⟩) 2 2] := by rw [hW]; exact (Blk.new _ _ _ _ (by simp)).alloc _
 have b5 : Blk W (w1.heap.size + 1 + 1 + 1 + 1 + 1) 27 #[.int .i64 0, .string ⟨#[]⟩, .slice (some ⟨w1.heap.size + 1 + 1 + 1 + 1, 0, none⟩) 1 1] := by rw [hW]; exact Blk.new _ _ _ _ (by simp)
 have r8 : RowAt (fun _ => False) 1 W (some ⟨w1.heap.size + 1, 0, none⟩) 1 [tG8] := RowAt.blk1 (x := tG8) b1 id RH.leaf
 have h2 : RH (fun _ => False) 2 W (some ⟨w1.heap.size + 1 + 1, 0, none⟩) 1 tG2 := RH.blk1 (r := [tG8]) b2 id r8
 have r7 : RowAt (fun _ => False) 2 W (some ⟨w1.heap.size + 1 + 1 + 1, 0, none⟩) 2 [tG7, tG2] := RowAt.blk2 (x := tG7) (y := tG2) b3 id RH.leaf h2
 have hT : RH (fun _ => False) 3 W (some ⟨w1.heap.size + 1 + 1 + 1 + 1, 0, none⟩) 1 tG := RH.blk1 (r := [tG7, tG2]) b4 id r7
 have hF1 : Fr [] w W := hf1.trans hFW
 have hgW := hg1.fr0 hFW
 have HW := Lib.hid hW.symm
 clear hW b1 b2 b3 b4 r8 h2 r7 hFW hg1 hf1
 rw [HW.out]
 clear HW
 generalize w1.heap.size + 1 + 1 + 1 + 1 + 1 = bt at *
 generalize w1.heap.size + 1 + 1 + 1 + 1 = bs at *
 generalize w1.heap.size = bg at *
 refine (g_print hgW hT).mono ?_
 rintro e w2 ⟨rfl, hf2⟩
 have hF2 := hF1.trans hf2
 have hg2 := hgW.fr0 hf2
 have hT2 := hT.fr0 hf2
 have b0 := b0.fr hf2 (by simp)
 have b5 := b5.fr hf2 (by simp)
 have q0 := b0.cell 0 rfl
 have y0 := b5.cell 0 rfl
 have y1 := b5.cell 1 rfl
 have y2 := b5.cell 2 rfl
 clear hT hgW hF1 hf2
 go_wp2_with fail
 refine (g_can hg2 hT2).mono ?_
 rintro e w3 ⟨A3, c3, rfl, hf3, hr3⟩
 have hF3 := hF2.trans hf3
 have hg3 := hg2.fr0 hf3
 have hT3 := hT2.fr0 hf3
 have b0 := b0.fr hf3 (by simp)
 have b5 := b5.fr hf3 (by simp)
 have q0 := (b0.alloc (.cells #[.int .i64 2] 3)).cell 0 rfl
 have y0 := (b5.alloc (.cells #[.int .i64 2] 3)).cell 0 rfl
 have y1 := (b5.alloc (.cells #[.int .i64 2] 3)).cell 1 rfl
 have y2 := (b5.alloc (.cells #[.int .i64 2] 3)).cell 2 rfl
 have q00 := b0.cell 0 rfl
 have y00 := b5.cell 0 rfl
 have y01 := b5.cell 1 rfl
 have y02 := b5.cell 2 rfl
 clear hT2 hg2 hF2 hf3
 go_wp2_with fail
 have hd : Rd (w3.alloc (.cells #[.int .i64 2] 3)) (.int .i64) (some ⟨w3.heap.size, 0, none⟩) 1 [2] := Rd.lit w3 3 (.int .i64) [2] _ rfl (by simp)
 refine (g_prune (hg3.fr0 ((Fr.refl _ _).alloc _)) (hT3.fr0 ((Fr.refl _ _).alloc _)) hd).mono ?_
 rintro e w4 ⟨A4, c4, rfl, hf4, hT4⟩
 have hT4 := hT4.sub (S' := fun _ => False) fun _ _ h => h.elim
 have hf4 : Fr [] w3 w4 := Fr.trans ((Fr.refl _ _).alloc _) hf4
 have hF4 := hF3.trans hf4
 clear hd q0 y0 y1 y2 q00 y00 y01 y02
 obtain ⟨W4, hW4⟩ : ∃ W, W = w4.alloc (.cells #[.int .i64 0, .string ⟨#[]⟩, .slice A4 1 c4] 27) := ⟨_, rfl⟩
 have hf5 : Fr [] w4 W4 := by rw [hW4]; exact frx
 have b7 : Blk W4 w4.heap.size 27 #[.int .i64 0, .string ⟨#[]⟩, .slice A4 1 c4] := by rw [hW4]; exact Blk.new _ _ _ _ rfl
 have hF5 := hF4.trans hf5
 have hg5 := (hg3.fr0 hf4).fr0 hf5
 have hT5 := (hT3.fr0 hf4).fr0 hf5
 have hU5 := hT4.fr0 hf5
 have hr5 := (hr3.fr0 hf4).fr0 hf5
 have b0 := (b0.fr hf4 (by simp)).fr hf5 (by simp)
 have b5 := (b5.fr hf4 (by simp)).fr hf5 (by simp)
 have q0 := b0.cell 0 rfl
 have z0 := b7.cell 0 rfl
 have z1 := b7.cell 1 rfl
 have z2 := b7.cell 2 rfl
 rw [hW4] at q0 z0 z1 z2
 have HW4 := Lib.hid hW4.symm
 clear hW4 hg3 hT3 hT4 hr3 hF3 hF4 hf4
 go_wp2_with fail
 rw [HW4.out]
 clear q0 z0 z1 z2
 refine (g_print2 hg5 hU5).mono ?_
 rintro e w6 ⟨rfl, hf6⟩
 have hF6 := hF5.trans hf6
 have hg6 := hg5.fr0 hf6
 have hT6 := hT5.fr0 hf6
 have hr6 := hr5.fr0 hf6
 have b0 := b0.fr hf6 (by simp)
 have b5 := b5.fr hf6 (by simp)
 have q0 := b0.cell 0 rfl
 clear hg5 hT5 hU5 hr5 hF5 hf6 b7 HW4 hf5
 generalize w4.heap.size = bu at *
 go_wp2_with fail
 refine (g_least hg6).mono ?_
 rintro e w7 ⟨A7, c7, rfl, hf7, hX7⟩
 have hX7 := hX7.sub (S' := fun _ => False) fun _ _ h => h.elim
 have hF7 := hF6.trans hf7
 have hT7 := hT6.fr0 hf7
 have hr7 := hr6.fr0 hf7
 have b5 := b5.fr hf7 (by simp)
 clear q0 b0 hg6 hT6 hr6 hF6 hf7
 obtain ⟨W8, hW8⟩ : ∃ W, W = (w7.alloc (.cells #[.int .i64 2, .string ⟨#[]⟩, .slice A7 1 c7] 27)).alloc (.cells #[.int .i64 1, .int .i64 2] 3) := ⟨_, rfl⟩
 have hf8 : Fr [] w7 W8 := by rw [hW8]; exact frx
 have b9 : Blk W8 w7.heap.size 27 #[.int .i64 2, .string ⟨#[]⟩, .slice A7 1 c7] := by rw [hW8]; exact (Blk.new _ _ _ _ rfl).alloc _
 have hd8 : Rd W8 (.int .i64) (some ⟨w7.heap.size + 1, 0, none⟩) 2 [1, 2] := by rw [hW8]; exact Rd.lit _ 3 (.int .i64) [1, 2] _ (by simp) (by simp)
 have hF8 := hF7.trans hf8
 have hT8 := hT7.fr0 hf8
 have hX8 := hX7.fr0 hf8
 have hr8 := hr7.fr0 hf8
 have b5 := b5.fr hf8 (by simp)
 have HW8 := Lib.hid hW8.symm
 clear hW8 hT7 hr7 hX7 hF7
 go_wp2_with fail
 rw [HW8.out]
 clear HW8
 refine (lawints_any A3 (some ⟨w7.heap.size + 1, 0, none⟩) c3 2 [1, 2] [1, 2] W8 hr8 hd8).mono ?_
 rintro e w9 ⟨rfl, n9, rfl⟩
 have y0 := b5.cell 0 rfl
 have y1 := b5.cell 1 rfl
 have y2 := b5.cell 2 rfl
 go_wp2_with fail
 refine (g_nodes (hT8.fr0 (Fr.refl _ _ |>.drewN _))).mono ?_
 rintro e w10 ⟨rfl, hf10⟩
 have hf10 : Fr [] W8 w10 := Fr.trans ((Fr.refl _ _).drewN _) hf10
 have b9 := b9.fr hf10 (by simp)
 have z0 := b9.cell 0 rfl
 have z1 := b9.cell 1 rfl
 have z2 := b9.cell 2 rfl
 clear y0 y1 y2 b5 hd8 hr8
 go_wp2_with fail
 refine (g_nodes2 (hX8.fr0 hf10)).mono ?_
 rintro e w11 ⟨rfl, hf11⟩
 have hF11 := (hF8.trans hf10).trans hf11
 clear z0 z1 z2 b9
 go_wp2_with fail
 refine (awake_any _ (htab.fr hF11)).mono ?_
 rintro e w12 ⟨rfl, hf12⟩
 go_wp2_with fail
 go_ret
 exact ⟨rfl, hF11.trans hf12⟩
end

/- ReduceGrammars: the walk of the law. -/
section
open Go.RowKit
theorem lok_exists (g : List Ru) : ∃ L, rulesErr g = 0 → LOk g L := by
 by_cases h : rulesErr g = 0
 ·have hr := rules_ok h
  obtain ⟨L, h1, h2⟩ := sz_exists (M := MUCH) (g := g) (by decide) fun r hr' => hr.kinds r hr'
  exact ⟨L, fun _ => ⟨fun r hr' => hr.kinds r hr', h1, h2, fun r hr' => Nat.le_trans (hr.head r hr').2.2 (by decide)⟩⟩
 ·exact ⟨[], fun h' => absurd h' h⟩
end

end Go.Proofs.YtippadnbngcjlaaGreatDoor
