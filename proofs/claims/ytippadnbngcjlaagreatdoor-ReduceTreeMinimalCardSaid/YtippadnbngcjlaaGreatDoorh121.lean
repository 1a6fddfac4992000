/- Texts of this seat, one behind the other: Close2, Gone, RNeeds, Sets, Wout, Hist, Anc, RAnc, Hist2, Choose, RuleM, TextM, SpotM. -/
import Derived.Test.YtippadnbngcjlaaGreatDoorh119
import Derived.Test.YtippadnbngcjlaaGreatDoorh120
import Derived.Test.YtippadnbngcjlaaGreatDoorh116
import Derived.Test.YtippadnbngcjlaaGreatDoorh11
namespace Go.Proofs.YtippadnbngcjlaaGreatDoor
set_option linter.unusedVariables false

/- Close. -/
section
open Go.RowKit
theorem chain_facts {n : Int} : ∀ {xs : List Int} {p : Int}, chain n p xs = true → -1 ≤ p → (∀ x ∈ xs, p < x ∧ 0 ≤ x ∧ x < n) ∧ (xs = [] ∨ (xs.length : Int) + p + 1 ≤ n)
  | [], _, _, _ => ⟨by simp, .inl rfl⟩
  | x :: xs, p, h, hp => by
    simp only [chain, Bool.and_eq_true, decide_eq_true_eq] at h
    have ih := chain_facts (xs := xs) (p := x) h.2 (by omega)
    refine ⟨fun y hy => ?_, .inr ?_⟩
    · rcases List.mem_cons.1 hy with rfl | hy
      · omega
      · have := ih.1 y hy; omega
    · rcases ih.2 with rfl | h2
      · simp; omega
      · simp; omega
theorem set_inR {n : Nat} {xs : List Int} (h : isSet n xs = true) : InR n xs ∧ xs.length ≤ n := by
 have := chain_facts (n := n) (xs := xs) (p := -1) h (by omega)
 refine ⟨fun x hx => by have := this.1 x hx; omega, ?_⟩
 rcases this.2 with rfl | h2
 ·simp
 ·omega
theorem ckN_facts {n : Int} : ∀ {L : List (List Int)} {i : Int}, ckN n i L = 0 → ∀ l ∈ L, isSet n l = true
  | [], _, _, _, hl => by cases hl
  | m :: L, i, h, l, hl => by
    rw [ckN] at h
    split at h
    · cases h
    · rename_i hm
      rcases List.mem_cons.1 hl with rfl | hl
      · cases hs : isSet n l
        · exact absurd (.inl hs) hm
        · rfl
      · exact ckN_facts h l hl
theorem needs_facts {L : List (List Int)} (h : checkNeeds L = 0) : L.length ≤ 256 ∧ ∀ l ∈ L, isSet L.length l = true := by
 unfold checkNeeds at h
 split at h
 ·cases h
 ·exact ⟨by omega, ckN_facts h⟩
end

/- reduced: a closed set without an element and what needs it. -/
section
open Go.RowKit
structure IsGn (L : List (List Int)) (set : List Int) (i : Int) (G : Int → Bool) : Prop where
 base : G i = true
 step : ∀ x ∈ set, ∀ y ∈ needsOf L x, G y = true → G x = true
 least : ∀ D : Int → Bool, D i = true → (∀ x ∈ set, ∀ y ∈ needsOf L x, D y = true → D x = true) → ∀ x, G x = true → D x = true
structure GnInv (L : List (List Int)) (set : List Int) (i : Int) (gs : List Bool) : Prop where
 len : gs.length = L.length
 base : inB gs i = true
 least : ∀ D : Int → Bool, D i = true → (∀ x ∈ set, ∀ y ∈ needsOf L x, D y = true → D x = true) → ∀ x, inB gs x = true → D x = true
def PassOk (L : List (List Int)) (set : List Int) (gs : List Bool) (k : Nat) : Prop := ∀ k' x, k' < k → set[k']? = some x → ∀ y ∈ needsOf L x, inB gs y = true → inB gs x = true
theorem GnInv.start {L : List (List Int)} (set : List Int) {i : Nat} (hi : i < L.length) : GnInv L set i ((List.replicate L.length false).set i true) :=
 ⟨by simp, by rw [show i = ((i : Int)).toNat from rfl, inB_set (by omega) (by simpa using hi)]; simp, fun D h1 _ x hx => by
  rw [show i = ((i : Int)).toNat from rfl, inB_set (by omega) (by simpa using hi)] at hx
  simp only [Bool.or_eq_true, decide_eq_true_eq] at hx
  rcases hx with hx | hx
  ·unfold inB at hx; simp [List.getElem?_replicate] at hx
   obtain ⟨_, hx⟩ := hx
   split at hx <;> simp at hx
  ·subst hx; exact h1⟩
theorem GnInv.add {L : List (List Int)} {set : List Int} {i : Int} {gs : List Bool} {x y : Int} (h : GnInv L set i gs) (hx : x ∈ set) (hy : y ∈ needsOf L x) (hg : inB gs y = true) (h0 : 0 ≤ x) (h1 : x.toNat < gs.length) : GnInv L set i (gs.set x.toNat true) :=
 ⟨by simpa using h.len, by rw [inB_set h0 h1, h.base]; rfl, fun D d1 d2 z hz => by
  rw [inB_set h0 h1] at hz
  simp only [Bool.or_eq_true, decide_eq_true_eq] at hz
  rcases hz with hz | hz
  ·exact h.least D d1 d2 z hz
  ·subst hz; exact d2 z hx y hy (h.least D d1 d2 y hg)⟩
theorem GnInv.done {L : List (List Int)} {set : List Int} {i : Int} {gs : List Bool} (h : GnInv L set i gs) (hp : PassOk L set gs set.length) : IsGn L set i (inB gs) :=
 ⟨h.base, fun x hx y hy hg => by
  obtain ⟨k, hk, e⟩ := List.mem_iff_getElem.1 hx
  exact hp k x hk (by rw [List.getElem?_eq_getElem hk, e]) y hy hg, h.least⟩
theorem inB_at {bs : List Bool} {j : Nat} {b : Bool} (h : bs[j]? = some b) : inB bs (j : Int) = b := by unfold inB; simp [h]
theorem Blk.setB {w : World} {g : Nat} {t : TypeId} {bs : List Bool} (h : Blk w g t (bs.map Value.bool).toArray) (j : Nat) (b : Bool) : Blk (w.setCell ⟨g, j, none⟩ (.bool b)) g t ((bs.set j b).map Value.bool).toArray := by
 simpa [List.map_set] using h.set_ j (.bool b)
end

/- Needs, closed sets of the reference; Without of the program. -/
section
open Go.RowKit
def isClosedB (L : List (List Int)) (set : List Int) : Bool := set.all fun x => decide (minus (needsOf L x) set = [])
end

/- Sets as rising lists: plain facts. -/
section
open Go.RowKit
theorem chain_iff {n : Int} : ∀ (xs : List Int) (p : Int), -1 ≤ p → (chain n p xs = true ↔ (∀ x ∈ xs, p < x ∧ x < n) ∧ xs.Pairwise (· < ·))
  | [], _, _ => by simp [chain]
  | x :: xs, p, hp => by
    simp only [chain, Bool.and_eq_true, decide_eq_true_eq, List.mem_cons, List.pairwise_cons]
    constructor
    · rintro ⟨⟨⟨h1, h2⟩, h3⟩, h4⟩
      obtain ⟨h5, h6⟩ := (chain_iff xs x (by omega)).1 h4
      exact ⟨fun y hy => by
        rcases hy with rfl | hy
        · exact ⟨h1, h3⟩
        · have := h5 y hy; omega, fun y hy => (h5 y hy).1, h6⟩
    · rintro ⟨h1, h2, h3⟩
      have hx := h1 x (.inl rfl)
      exact ⟨⟨⟨hx.1, by omega⟩, hx.2⟩, (chain_iff xs x (by omega)).2 ⟨fun y hy => ⟨h2 y hy, (h1 y (.inr hy)).2⟩, h3⟩⟩
theorem isSet_iff {n : Int} {xs : List Int} : isSet n xs = true ↔ (∀ x ∈ xs, 0 ≤ x ∧ x < n) ∧ xs.Pairwise (· < ·) := by
 unfold isSet
 rw [chain_iff xs (-1) (by omega)]
 constructor
 ·rintro ⟨h1, h2⟩; exact ⟨fun x hx => by have := h1 x hx; omega, h2⟩
 ·rintro ⟨h1, h2⟩; exact ⟨fun x hx => by have := h1 x hx; omega, h2⟩
theorem sorted_nodup {xs : List Int} (h : xs.Pairwise (· < ·)) : xs.Nodup := h.imp (by omega)
theorem sorted_ext : ∀ {xs ys : List Int}, xs.Pairwise (· < ·) → ys.Pairwise (· < ·) → (∀ x, x ∈ xs ↔ x ∈ ys) → xs = ys
  | [], [], _, _, _ => rfl
  | [], y :: ys, _, _, h => by have := (h y).2 (by simp); simp at this
  | x :: xs, [], _, _, h => by have := (h x).1 (by simp); simp at this
  | x :: xs, y :: ys, hx, hy, h => by
    rw [List.pairwise_cons] at hx hy
    have e : x = y := by
      have h1 := (h x).1 (by simp)
      have h2 := (h y).2 (by simp)
      rcases List.mem_cons.1 h1 with h1 | h1
      · exact h1
      · rcases List.mem_cons.1 h2 with h2 | h2
        · exact h2.symm
        · have := hx.1 y h2; have := hy.1 x h1; omega
    subst e
    rw [sorted_ext hx.2 hy.2 fun z => ?_]
    have := h z
    simp only [List.mem_cons] at this
    constructor
    · intro hz
      rcases this.1 (.inr hz) with h1 | h1
      · subst h1; have := hx.1 z hz; omega
      · exact h1
    · intro hz
      rcases this.2 (.inr hz) with h1 | h1
      · subst h1; have := hy.1 z hz; omega
      · exact h1
theorem mem_minus {xs ys : List Int} {x : Int} : x ∈ minus xs ys ↔ x ∈ xs ∧ x ∉ ys := by unfold minus; simp
theorem minus_sorted {xs : List Int} (ys : List Int) (h : xs.Pairwise (· < ·)) : (minus xs ys).Pairwise (· < ·) := h.filter _
theorem minus_set {n : Int} {xs : List Int} (ys : List Int) (h : isSet n xs = true) : isSet n (minus xs ys) = true := by
 rw [isSet_iff] at *
 exact ⟨fun x hx => h.1 x (mem_minus.1 hx).1, minus_sorted ys h.2⟩
theorem minus_nil_iff {xs ys : List Int} : minus xs ys = [] ↔ ∀ x ∈ xs, x ∈ ys := by
 unfold minus
 rw [List.filter_eq_nil_iff]
 simp
theorem nodup_sub_len : ∀ {xs ys : List Int}, xs.Nodup → (∀ x ∈ xs, x ∈ ys) → xs.length ≤ ys.length
  | [], _, _, _ => by simp
  | x :: xs, ys, hn, h => by
    rw [List.nodup_cons] at hn
    have hx := h x (by simp)
    have := nodup_sub_len (ys := ys.erase x) hn.2 fun y hy => (List.mem_erase_of_ne (fun (e : y = x) => hn.1 (e ▸ hy))).2 (h y (by simp [hy]))
    have hl := List.length_erase_of_mem hx
    have := List.length_pos_of_mem hx
    simp; omega
theorem mem_picked {bs : List Bool} {x : Int} : x ∈ pickedOf bs ↔ inB bs x = true := by
 unfold pickedOf inB
 simp only [List.mem_map, List.mem_filter, List.mem_range, Bool.and_eq_true, decide_eq_true_eq]
 constructor
 ·rintro ⟨k, ⟨h1, h2⟩, rfl⟩
  exact ⟨by omega, by simpa using h2⟩
 ·rintro ⟨h1, h2⟩
  refine ⟨x.toNat, ⟨?_, h2⟩, by omega⟩
  by_cases h : x.toNat < bs.length
  ·exact h
  ·rw [List.getD_eq_getElem?_getD, List.getElem?_eq_none (by omega)] at h2
   cases h2
theorem picked_sorted (bs : List Bool) : (pickedOf bs).Pairwise (· < ·) := by
 unfold pickedOf
 rw [List.pairwise_map]
 refine List.Pairwise.filter _ ?_
 exact List.pairwise_lt_range.imp (by omega)
theorem inB_lt {bs : List Bool} {x : Int} (h : inB bs x = true) : 0 ≤ x ∧ x < bs.length := by
 have := mem_picked.2 h
 unfold pickedOf at this
 simp only [List.mem_map, List.mem_filter, List.mem_range] at this
 obtain ⟨k, ⟨h1, _⟩, rfl⟩ := this
 omega
theorem isClosed_iff {L : List (List Int)} {set : List Int} : isClosedB L set = true ↔ ∀ x ∈ set, ∀ y ∈ needsOf L x, y ∈ set := by
 unfold isClosedB
 rw [List.all_eq_true]
 simp only [decide_eq_true_eq, minus_nil_iff]
end

/- Without of the program. -/
section
open Go.RowKit
end

/- Histories: which are valid; ancestors, the plain side. -/
section
open Go.RowKit
end

/- ancestors of the program. -/
section
open Go.RowKit
def BolAt (w : World) (B : Nat) (bs : List Bool) : Prop := Blk w B 4 (bs.map Value.bool).toArray
theorem BolAt.set_ {w : World} {B : Nat} {bs : List Bool} (h : BolAt w B bs) (j : Nat) (b : Bool) : BolAt (w.setCell ⟨B, j, none⟩ (.bool b)) B (bs.set j b) := Blk.setB h j b
theorem BolAt.cell {w : World} {B : Nat} {bs : List Bool} (h : BolAt w B bs) {j : Nat} {b : Bool} (hj : bs[j]? = some b) : w.cell? ⟨B, j, none⟩ = some (.bool b) ∧ w.frozen? ⟨B, j, none⟩ = false :=
 ⟨Blk.cell h j (by simp [hj]), Blk.frozen h j⟩
end

/- ancestors of the reference. -/
section
open Go.RowKit
end

/- Histories: CheckHistory. -/
section
open Go.RowKit
end

/- choose: the candidate that divides best; the program's. -/
section
open Go.RowKit
end

/- The first error of a grammar: plain. -/
section
open Go.RowKit
def firstErr {α : Type} (f : α → Int) (l : List α) : Int := l.foldl (fun e x => errFold e (f x)) 0
section
variable {α : Type} {f : α → Int} {l : List α} {k : Nat} {x : α}
theorem first_from : ∀ (l : List α) (e : Int), e ≠ 0 → l.foldl (fun e x => errFold e (f x)) e = e
  | [], _, _ => rfl
  | x :: l, e, h => by
    rw [List.foldl_cons, show errFold e (f x) = e by simp [errFold, h]]
    exact first_from l e h
theorem first_take (h0 : firstErr f (l.take k) = 0) (hx : Hid (l[k]? = some x)) : firstErr f (l.take (k + 1)) = f x := by
 unfold firstErr at *
 rw [fold_take hx, h0]
 rfl
theorem first_cut (h0 : firstErr f (l.take k) = 0) (hx : Hid (l[k]? = some x)) (h : f x ≠ 0) : firstErr f l = f x := by
 have h1 := first_take h0 hx
 unfold firstErr at *
 conv => lhs; rw [← List.take_append_drop (k + 1) l, List.foldl_append, h1]
 exact first_from _ _ h
theorem first_all : ∀ {l : List α}, firstErr f l = 0 → ∀ x ∈ l, f x = 0
  | [], _, _, h => by simp at h
  | y :: l, h, x, hx => by
    unfold firstErr at h
    rw [List.foldl_cons] at h
    have hy : f y = 0 := Classical.byContradiction fun hn => by
      rw [show errFold 0 (f y) = f y from rfl, first_from l _ hn] at h
      exact hn h
    rcases List.mem_cons.1 hx with rfl | hx
    · exact hy
    · rw [hy] at h
      exact first_all (l := l) h x hx
end
def slotErr (n : Int) (s : Sl) : Int := if 2 < s.many then 1 else if 16 < s.between.size then 3 else if s.kinds.length = 0 ∨ isSet n s.kinds = false then 1 else 0
def headErr (r : Ru) : Int := if 16 < r.before.size ∨ 16 < r.after.size then 3 else if r.leaf = true ∧ 0 < r.slots.length then 1 else if 8 < r.slots.length then 3 else 0
def ruleErr (n : Int) (r : Ru) : Int := errFold (headErr r) (firstErr (slotErr n) r.slots)
def rulesErr (g : List Ru) : Int := firstErr (ruleErr g.length) g
def leastT (g : List Ru) (L : List Int) (k : Int) : T := leastF g L (getI L k).toNat k
def farK (g : List Ru) (L : List Int) (k : Nat) : Bool := decide (1024 < getI L k) || decide (24 < (leastT g L k).depth)
def chkG (g : List Ru) (L : List Int) : Int := if g.length = 0 then 1 else if 32 < g.length then 3 else if rulesErr g ≠ 0 then rulesErr g else if (List.range g.length).any (farK g L) then 7 else 0
theorem slotErr_zero {n : Int} {s : Sl} (h : slotErr n s = 0) : s.many ≤ 2 ∧ s.between.size ≤ 16 ∧ s.kinds ≠ [] ∧ isSet n s.kinds = true := by
 unfold slotErr at h
 split at h
 ·omega
 ·split at h
  ·omega
  ·split at h
   ·omega
   ·rename_i h1 h2 h3
    simp only [not_or, Bool.not_eq_false] at h3
    exact ⟨by omega, by omega, fun hn => h3.1 (by rw [hn]; rfl), h3.2⟩
theorem headErr_zero {r : Ru} (h : headErr r = 0) : r.before.size ≤ 16 ∧ r.after.size ≤ 16 ∧ r.slots.length ≤ 8 ∧ (r.leaf = true → r.slots = []) := by
 unfold headErr at h
 split at h
 ·omega
 ·split at h
  ·omega
  ·split at h
   ·omega
   ·rename_i h1 h2 h3
    exact ⟨by omega, by omega, by omega, fun hl => List.eq_nil_of_length_eq_zero (Classical.byContradiction fun hp => h2 ⟨hl, by omega⟩)⟩
structure RulesOk (g : List Ru) : Prop where
 head : ∀ r ∈ g, r.before.size ≤ 16 ∧ r.after.size ≤ 16 ∧ r.slots.length ≤ 8
 slot : ∀ r ∈ g, ∀ s ∈ r.slots, s.many ≤ 2 ∧ s.between.size ≤ 16 ∧ s.kinds ≠ [] ∧ isSet g.length s.kinds = true
theorem rules_ok {g : List Ru} (h : rulesErr g = 0) : RulesOk g := by
 have h1 := first_all h
 refine ⟨fun r hr => ?_, fun r hr s hs => ?_⟩
 ·have h2 := h1 r hr
  unfold ruleErr errFold at h2
  split at h2
  ·rename_i h3
   have := headErr_zero h3
   exact ⟨this.1, this.2.1, this.2.2.1⟩
  ·contradiction
 ·have h2 := h1 r hr
  unfold ruleErr errFold at h2
  split at h2
  ·exact slotErr_zero (first_all h2 s hs)
  ·contradiction
theorem RulesOk.kinds {g : List Ru} (h : RulesOk g) : ∀ r ∈ g, KindsOk g.length r := fun r hr s hs => ⟨(h.slot r hr s hs).2.2.1, (isSet_iff.1 (h.slot r hr s hs).2.2.2).1⟩
theorem RulesOk.lok {g : List Ru} (h : RulesOk g) : ∃ L, LOk g L := by
 obtain ⟨L, h1, h2⟩ := sz_exists (M := MUCH) (by decide) h.kinds
 exact ⟨L, h.kinds, h1, h2, fun r hr => by have := (h.head r hr).2.2; omega⟩
section
variable {g : List Ru} {L : List Int}
theorem chk_none (h : g.length = 0) : chkG g L = 1 := by unfold chkG; rw [if_pos h]
theorem chk_many (h : 32 < g.length) : chkG g L = 3 := by unfold chkG; rw [if_neg (by omega), if_pos h]
theorem chk_err (h0 : g.length ≠ 0) (h1 : ¬ 32 < g.length) (h : rulesErr g ≠ 0) : chkG g L = rulesErr g := by unfold chkG; rw [if_neg h0, if_neg h1, if_pos h]
theorem chk_far {k : Nat} (h0 : g.length ≠ 0) (h1 : ¬ 32 < g.length) (h : rulesErr g = 0) (hk : k < g.length) (hf : farK g L k = true) : chkG g L = 7 := by
 unfold chkG
 rw [if_neg h0, if_neg h1, if_neg (by simp [h]), if_pos]
 exact List.any_eq_true.2 ⟨k, by simp [hk], hf⟩
theorem chk_ok (h0 : g.length ≠ 0) (h1 : ¬ 32 < g.length) (h : rulesErr g = 0) (hf : ∀ k, k < g.length → farK g L k = false) : chkG g L = 0 := by
 unfold chkG
 rw [if_neg h0, if_neg h1, if_neg (by simp [h]), if_neg]
 simp only [Bool.not_eq_true]
 exact List.any_eq_false.2 fun k hk => by rw [hf k (by simpa using hk)]; simp
theorem chk_zero (h : chkG g L = 0) : g.length ≠ 0 ∧ g.length ≤ 32 ∧ rulesErr g = 0 ∧ ∀ k, k < g.length → farK g L k = false := by
 unfold chkG at h
 split at h
 ·omega
 ·split at h
  ·omega
  ·split at h
   ·contradiction
   ·split at h
    ·omega
    ·rename_i h1 h2 h3 h4
     refine ⟨h1, by omega, by simpa using h3, fun k hk => ?_⟩
     have h5 := List.any_eq_false.1 (by simpa only [Bool.not_eq_true] using h4) k (by simp [hk])
     simpa using h5
end
end

/- The text of a tree: plain. -/
section
open Go.RowKit
abbrev Bs := List UInt8
def sb (s : ByteArray) : Bs := s.data.toList
def rowStep (bt : Bs) (st : Bs × Bool) (x : Bs) : Bs × Bool := (st.1 ++ (if st.2 then bt else []) ++ x, true)
def rowText (bt out : Bs) (row : List Bs) : Bs := (row.foldl (rowStep bt) (out, false)).1
def slotText (out : Bs) (p : Sl × List Bs) : Bs := rowText (sb p.1.between) out p.2
def textF (g : List Ru) (t : T) (rows : List (List Bs)) : Bs :=
 match ruleAt g t.kind with
 | none => []
 | some r => (r.slots.zip rows).foldl slotText (sb r.before ++ sb t.text) ++ sb r.after
def textL (g : List Ru) : T → Bs := T.para (textF g)
def rowsL (g : List Ru) (t : T) : List (List Bs) := t.slots.map (·.map (textL g))
theorem textL_eq {g : List Ru} {t : T} {r : Ru} (h : ruleAt g t.kind = some r) : textL g t = (r.slots.zip (rowsL g t)).foldl slotText (sb r.before ++ sb t.text) ++ sb r.after := by
 conv => lhs; unfold textL
 rw [T.para_eq]
 unfold textF
 rw [h]
 rfl
def Val (g : List Ru) (t : T) : Prop := nodeErr g t = 0
theorem err_all_row {g : List Ru} : ∀ (r : List T) (e : Int), r.foldl (nodeX g) e = 0 → e = 0 ∧ ∀ x ∈ r, nodeErr g x = 0
  | [], e, h => ⟨h, by simp⟩
  | x :: r, e, h => by
    obtain ⟨h1, h2⟩ := err_all_row r _ h
    have he : e = 0 := Classical.byContradiction fun hn => by simp [nodeX, errFold, hn] at h1
    subst he
    refine ⟨rfl, fun y hy => ?_⟩
    rcases List.mem_cons.1 hy with rfl | hy
    · simpa [nodeX, errFold] using h1
    · exact h2 y hy
theorem err_all {g : List Ru} : ∀ (L : List (List T)) (e : Int), fold2 (nodeX g) e L = 0 → e = 0 ∧ ∀ r ∈ L, ∀ x ∈ r, nodeErr g x = 0
  | [], e, h => ⟨h, by simp⟩
  | r :: L, e, h => by
    have h : fold2 (nodeX g) (r.foldl (nodeX g) e) L = 0 := h
    obtain ⟨h1, h2⟩ := err_all L _ h
    obtain ⟨h3, h4⟩ := err_all_row r e h1
    refine ⟨h3, fun s hs => ?_⟩
    rcases List.mem_cons.1 hs with rfl | hs
    · exact h4
    · exact h2 s hs
theorem val_parts {g : List Ru} {t : T} (h : Val g t) : ∃ r, ruleAt g t.kind = some r ∧ t.text.size ≤ 16 ∧ t.slots.length = r.slots.length ∧ badRows r.slots t.slots = false ∧ (t.text.toList.isEmpty = true ∨ r.leaf = true) ∧ ∀ q ∈ t.slots, ∀ x ∈ q, Val g x := by
 unfold Val at h
 rcases hr : ruleAt g t.kind with _ | r
 ·rw [node_none hr] at h; omega
 ·by_cases h1 : 16 < t.text.size
  ·rw [node_long hr h1] at h; omega
  ·rcases h2 : (((!t.text.toList.isEmpty) && !r.leaf) || (t.slots.length : Int) != r.slots.length) with _ | _
   ·rcases h3 : badRows r.slots t.slots with _ | _
    ·rw [node_on hr h1 h2 h3] at h
     have h4 := Bool.or_eq_false_iff.1 h2
     refine ⟨r, rfl, by omega, by have := h4.2; simp at this; omega, h3, ?_, (err_all _ _ h).2⟩
     have h5 := h4.1
     revert h5
     generalize t.text.toList.isEmpty = a
     generalize r.leaf = b
     cases a <;> cases b <;> simp
    ·rw [node_bad hr h1 h2 h3] at h; omega
   ·rw [node_leaf hr h1 h2] at h; omega
theorem ruleAt_some {g : List Ru} {k : Int} {r : Ru} (h : ruleAt g k = some r) : ∃ n : Nat, k = n ∧ g[n]? = some r ∧ n < g.length := by
 unfold ruleAt at h
 split at h
 ·exact ⟨k.toNat, by omega, h, (List.getElem?_eq_some_iff.1 h).1⟩
 ·cases h
abbrev nstN (n : Nat) (x : T) : Nat := n + x.nodes
section
variable {g : List Ru} {t : T} {r : Ru} {S : List Sl} {b : Bs}
theorem rowStep_len (bt : Bs) (st : Bs × Bool) (x : Bs) : st.1.length ≤ (rowStep bt st x).1.length := by
 simp [rowStep]
theorem slotText_len (out : Bs) (p : Sl × List Bs) : out.length ≤ (slotText out p).length := by
 unfold slotText rowText
 exact fold_inc (m := fun st : Bs × Bool => st.1.length) (fun st x => rowStep_len _ st x) p.2 (out, false)
theorem slots_take {i : Nat} {s : Sl} {q : List Bs} {rows : List (List Bs)} (hs : Hid (S[i]? = some s)) (hq : rows[i]? = some q) : ((S.zip rows).take (i + 1)).foldl slotText b = slotText (((S.zip rows).take i).foldl slotText b) (s, q) := by
 have h : (S.zip rows)[i]? = some (s, q) := by rw [List.getElem?_zip_eq_some]; exact ⟨hs.out, hq⟩
 exact fold_take h
theorem rowsL_at {i : Nat} {q : List T} (hq : Hid (t.slots[i]? = some q)) : (rowsL g t)[i]? = some (q.map (textL g)) := by
 unfold rowsL
 rw [List.getElem?_map, hq.out]
 rfl
def inRow (bt out : Bs) (row : List Bs) (k : Nat) : Bs := ((row.take k).foldl (rowStep bt) (out, false)).1
theorem row_flag (bt : Bs) : ∀ (row : List Bs) (st : Bs × Bool), (row.foldl (rowStep bt) st).2 = (st.2 || !row.isEmpty)
 | [], st => by simp
 | x :: row, st => by rw [List.foldl_cons, row_flag bt row]; simp [rowStep]
theorem inRow_next {bt out : Bs} {q : List T} {k : Nat} {x : T} (hx : Hid (q[k]? = some x)) : inRow bt out (q.map (textL g)) (k + 1) = inRow bt out (q.map (textL g)) k ++ (if 0 < k then bt else []) ++ textL g x := by
 unfold inRow
 have h : Hid ((q.map (textL g))[k]? = some (textL g x)) := by show _ = _; rw [List.getElem?_map, hx.out]; rfl
 rw [fold_take h]
 show (_ ++ (if (((q.map (textL g)).take k).foldl (rowStep bt) (out, false)).2 then bt else []) ++ textL g x) = _
 rw [row_flag]
 have hk : k < q.length := (List.getElem?_eq_some_iff.1 hx.out).1
 by_cases h0 : 0 < k
 ·rw [if_pos h0, if_pos]
  rw [Bool.false_or]
  have hl : ((q.map (textL g)).take k).length = k := by simp; omega
  cases hz : ((q.map (textL g)).take k) with
  | nil => rw [hz] at hl; simp at hl; omega
  | cons a l => rfl
 ·obtain rfl : k = 0 := by omega
  simp
theorem inRow_all {bt out : Bs} {row : List Bs} {k : Nat} (h : row.length ≤ k) : inRow bt out row k = rowText bt out row := by unfold inRow rowText; rw [List.take_of_length_le h]
theorem text_in (h : ruleAt g t.kind = some r) {i : Nat} {s : Sl} {q : List T} (hs : Hid (r.slots[i]? = some s)) (hq : Hid (t.slots[i]? = some q)) (k : Nat) :
  (inRow (sb s.between) (((r.slots.zip (rowsL g t)).take i).foldl slotText (sb r.before ++ sb t.text)) (q.map (textL g)) k).length + (sb r.after).length ≤ (textL g t).length := by
 rw [textL_eq h, List.length_append]
 refine Nat.add_le_add_right ?_ _
 have h1 := fold_take_le (m := List.length) slotText_len (r.slots.zip (rowsL g t)) (sb r.before ++ sb t.text) (i + 1)
 rw [slots_take hs (rowsL_at hq)] at h1
 refine Nat.le_trans ?_ h1
 unfold inRow slotText rowText
 exact fold_take_le (m := fun st : Bs × Bool => st.1.length) (fun st x => rowStep_len _ st x) _ _ _
theorem text_upto (h : ruleAt g t.kind = some r) (i : Nat) : (((r.slots.zip (rowsL g t)).take i).foldl slotText (sb r.before ++ sb t.text)).length + (sb r.after).length ≤ (textL g t).length := by
 rw [textL_eq h, List.length_append]
 exact Nat.add_le_add_right (fold_take_le (m := List.length) slotText_len _ _ i) _
theorem sb_size (s : ByteArray) : (sb s).length = s.size := by
 unfold sb
 rw [Array.length_toList]
 rfl
theorem text_row (bt : Bs) (hb : bt.length ≤ 16) : ∀ (q : List T) (st : Bs × Bool) (a : Nat), (∀ x ∈ q, (textL g x).length + 16 ≤ 64 * x.nodes) → st.1.length + 32 ≤ 64 * a → ((q.map (textL g)).foldl (rowStep bt) st).1.length + 32 ≤ 64 * q.foldl nstN a
  | [], _, _, _, h => h
  | x :: q, st, a, hx, h => by
    refine text_row bt hb q _ _ (fun y hy => hx y (by simp [hy])) ?_
    have h1 := hx x (by simp)
    have h2 : ((if st.2 then bt else []) : Bs).length ≤ 16 := by
      split
      · exact hb
      · simp
    simp only [rowStep, List.length_append, nstN]
    omega
theorem text_short (hg : RulesOk g) (t : T) : Val g t → (textL g t).length + 16 ≤ 64 * t.nodes := by
  induction t using T.ind with
  | h t ih =>
    intro hv
    obtain ⟨r, hr, h16, hlen, _, _, hsub⟩ := val_parts hv
    obtain ⟨k, _, hk, _⟩ := ruleAt_some hr
    have hrm := List.mem_of_getElem? hk
    have hh := hg.head r hrm
    have hs := hg.slot r hrm
    rw [textL_eq hr, T.nodes_eq]
    have hrows : ∀ (S : List Sl) (Q : List (List T)) (out : Bs) (a : Nat), (∀ s ∈ S, s.between.size ≤ 16) → (∀ q ∈ Q, ∀ x ∈ q, (textL g x).length + 16 ≤ 64 * x.nodes) → out.length + 32 ≤ 64 * a →
        ((S.zip (Q.map (·.map (textL g)))).foldl slotText out).length + 32 ≤ 64 * fold2 nstN a Q := by
      intro S
      induction S with
      | nil =>
        intro Q out a _ _ h
        have h2 := fold2_inc (m := id) (f := nstN) (fun b x => Nat.le_add_right _ _) Q a
        simp only [id] at h2
        show out.length + 32 ≤ _
        omega
      | cons s S ihS =>
        intro Q out a hS hQ h
        cases Q with
        | nil => exact h
        | cons q Q =>
          refine ihS Q _ _ (fun s' hs' => hS s' (by simp [hs'])) (fun q' hq' => hQ q' (by simp [hq'])) ?_
          have h1 := hS s (by simp)
          exact text_row (sb s.between) (by rw [sb_size]; exact h1) q (out, false) a (hQ q (by simp)) h
    have := hrows r.slots t.slots (sb r.before ++ sb t.text) 1 (fun s h => (hs s h).2.1) (fun q hq x hx => ih q hq x hx (hsub q hq x hx)) (by rw [List.length_append, sb_size, sb_size]; omega)
    rw [List.length_append, sb_size]
    show _ + _ + 16 ≤ 64 * fold2 nstN 1 t.slots
    unfold rowsL
    omega
end
end

/- The nodes of a tree with where they stand: plain, and how a slice of them reads. -/
section
open Go.RowKit
structure Sp where
 tree : T
 slot : Sl
 depth : Int
 size : Nat
def spotRow (s : Sl) (d : Int) (out : List Sp) (f : Sl → Int → List Sp) : List Sp := out ++ f s (d + 1)
def spotSlot (d : Int) (out : List Sp) (p : Sl × List (Sl → Int → List Sp)) : List Sp := p.2.foldl (spotRow p.1 d) out
def restF (g : List Ru) (t : T) (rows : List (List (Sl → Int → List Sp))) (d : Int) : List Sp :=
 match ruleAt g t.kind with
 | none => []
 | some r => (r.slots.zip rows).foldl (spotSlot d) []
def spotsF (g : List Ru) (t : T) (rows : List (List (Sl → Int → List Sp))) (s : Sl) (d : Int) : List Sp := ⟨t, s, d, 1 + (restF g t rows d).length⟩ :: restF g t rows d
def spotsT (g : List Ru) : T → Sl → Int → List Sp := T.para (spotsF g)
def spotX (g : List Ru) (s : Sl) (d : Int) (out : List Sp) (x : T) : List Sp := out ++ spotsT g x s (d + 1)
def spotP (g : List Ru) (d : Int) (out : List Sp) (p : Sl × List T) : List Sp := p.2.foldl (spotX g p.1 d) out
def restT (g : List Ru) (t : T) (d : Int) : List Sp :=
 match ruleAt g t.kind with
 | none => []
 | some r => (r.slots.zip t.slots).foldl (spotP g d) []
theorem restF_eq (g : List Ru) (t : T) (d : Int) : restF g t (t.slots.map (·.map (spotsT g))) d = restT g t d := by
  unfold restF restT
  split
  · rfl
  · rename_i r _
    have h : ∀ (S : List Sl) (Q : List (List T)) (out : List Sp), (S.zip (Q.map (·.map (spotsT g)))).foldl (spotSlot d) out = (S.zip Q).foldl (spotP g d) out := by
      intro S
      induction S with
      | nil => intro Q out; rfl
      | cons s S ih =>
        intro Q out
        cases Q with
        | nil => rfl
        | cons q Q =>
          show (S.zip (Q.map (·.map (spotsT g)))).foldl (spotSlot d) (spotSlot d out (s, q.map (spotsT g))) = _
          have e : spotSlot d out (s, q.map (spotsT g)) = spotP g d out (s, q) := by
            unfold spotSlot spotP
            rw [List.foldl_map]
            rfl
          rw [ih, e]
          rfl
    exact h _ _ _
theorem spotsT_eq (g : List Ru) (t : T) (s : Sl) (d : Int) : spotsT g t s d = ⟨t, s, d, 1 + (restT g t d).length⟩ :: restT g t d := by
 conv => lhs; unfold spotsT
 rw [T.para_eq]
 show spotsF g t (t.slots.map (·.map (spotsT g))) s d = _
 unfold spotsF
 rw [restF_eq]
section
variable {g : List Ru} {t : T} {r : Ru}
theorem restT_eq (h : ruleAt g t.kind = some r) (d : Int) : restT g t d = (r.slots.zip t.slots).foldl (spotP g d) [] := by unfold restT; rw [h]
theorem spot_in_len (d : Int) (out : List Sp) (p : Sl × List T) : out.length ≤ (spotP g d out p).length := by
 unfold spotP
 exact fold_inc (m := List.length) (fun b x => by simp [spotX]) _ _
theorem spots_len {g : List Ru} (t : T) : Val g t → ∀ (s : Sl) (d : Int), (spotsT g t s d).length = t.nodes := by
  induction t using T.ind with
  | h t ih =>
    intro hv s d
    obtain ⟨r, hr, _, hlen, _, _, hsub⟩ := val_parts hv
    rw [spotsT_eq, restT_eq hr, List.length_cons, T.nodes_eq]
    have hrow : ∀ (s : Sl) (q : List T) (out : List Sp) (a : Nat), (∀ x ∈ q, ∀ s d, (spotsT g x s d).length = x.nodes) → out.length + 1 = a → (q.foldl (spotX g s d) out).length + 1 = q.foldl nstN a := by
      intro s q
      induction q with
      | nil => intro out a _ h; exact h
      | cons x q ihq =>
        intro out a hx h
        refine ihq _ _ (fun y hy => hx y (by simp [hy])) ?_
        have := hx x (by simp) s (d + 1)
        simp only [spotX, List.length_append, nstN]
        omega
    have hrows : ∀ (S : List Sl) (Q : List (List T)) (out : List Sp) (a : Nat), S.length = Q.length → (∀ q ∈ Q, ∀ x ∈ q, ∀ s d, (spotsT g x s d).length = x.nodes) → out.length + 1 = a → ((S.zip Q).foldl (spotP g d) out).length + 1 = fold2 nstN a Q := by
      intro S
      induction S with
      | nil =>
        intro Q out a hl _ h
        have : Q = [] := List.eq_nil_of_length_eq_zero hl.symm
        subst this
        exact h
      | cons s S ihS =>
        intro Q out a hl hQ h
        cases Q with
        | nil => simp at hl
        | cons q Q => exact ihS Q _ _ (by simpa using hl) (fun q' hq' => hQ q' (by simp [hq'])) (hrow s q out a (hQ q (by simp)) h)
    exact hrows r.slots t.slots [] 1 hlen.symm (fun q hq x hx s d => ih q hq x hx (hsub q hq x hx) s d) rfl
end
abbrev SpH := Sp × (Option Addr × Nat) × (Option Addr × Nat)
def encS (p : SpH) : List Value := [.int .i64 p.1.tree.kind, .string p.1.tree.text, .slice p.2.1.1 p.1.tree.slots.length p.2.1.2, .int .u8 p.1.slot.many, .slice p.2.2.1 p.1.slot.kinds.length p.2.2.2, .string p.1.slot.between, .int .i64 p.1.depth, .int .i64 p.1.size]
structure SpOk (base n : Nat) (w : World) (p : SpH) : Prop where
 tree : RH (fun k => base ≤ k) n w p.2.1.1 p.2.1.2 p.1.tree
 kinds : Rd w (.int .i64) p.2.2.1 p.2.2.2 p.1.slot.kinds
 low : ∀ a, p.2.2.1 = some a → 0 < p.1.slot.kinds.length → a.block < base
theorem SpOk.fr {Z : List Nat} {base n : Nat} {w w' : World} {p : SpH} (h : SpOk base n w p) (hf : Fr Z w w') (hZ : ∀ k ∈ Z, base ≤ k) : SpOk base n w' p :=
 ⟨h.tree.fr hf hZ, h.kinds.fr hf fun h0 a ha hm => by have := h.low a ha h0; have := hZ _ hm; omega, h.low⟩
theorem SpOk.mono {base n m : Nat} {w : World} {p : SpH} (h : SpOk base n w p) (hl : n ≤ m) : SpOk base m w p := ⟨h.tree.mono hl, h.kinds, h.low⟩
theorem own_one_g {w : World} {e : TypeId} {sz : Nat} (xs : List Value) (H : Nat) (hH : H = w.heap.size) (hl : xs.length = sz) : (w.alloc (.cells xs.toArray e)).ownsRow H e sz (.slice (some ⟨H, 0, none⟩) 1 1) 1 xs := by
 subst hH
 exact ⟨by omega, .inr ⟨w.heap.size, 1, xs.toArray, rfl, Nat.le_refl _, heap_alloc_new w _, Nat.le_refl _, by unfold maxLen; omega, by simp; omega, by simp; exact List.take_of_length_le (by omega)⟩⟩
theorem own_set {w : World} {base sz n c g i : Nat} {e : TypeId} {xs : List Value} {u : Value} (h : w.ownsRow base e sz (.slice (some ⟨g, 0, none⟩) n c) n xs) (hi : i < xs.length) :
  (w.setCell ⟨g, i, none⟩ u).ownsRow base e sz (.slice (some ⟨g, 0, none⟩) n c) n (xs.set i u) ∧ (∃ y, w.cell? ⟨g, i, none⟩ = some y) ∧ w.frozen? ⟨g, i, none⟩ = false := by
 have hl := h.1
 rcases h.2 with ⟨he, _⟩ | ⟨g', cap', cur, he, hb, hh, hnc, hcm, hsz, htk⟩
 ·simp at he
 ·injection he with e1 e2 e3
  injection e1 with e1
  injection e1 with e1
  subst e1 e3
  refine ⟨⟨by rw [List.length_set]; exact hl, .inr ⟨g, c, cur.setIfInBounds i u, rfl, hb, heap_setCell_same w g i cur e u hh, hnc, hcm, by simpa using hsz, ?_⟩⟩, ?_, ?_⟩
  ·rw [← htk, Array.toList_setIfInBounds, List.take_set]
  ·have hlt : i < cur.size := by
    rw [← htk] at hi
    simp at hi
    omega
   exact ⟨cur[i], by rw [cell_of_row w g i cur e (0, 0) hh]; simp [hlt]⟩
  ·simp [World.frozen?, hh]
theorem encS_len (G : List SpH) : (G.flatMap encS).length = G.length * 8 := by
 induction G with
 | nil => rfl
 | cons p G ih => rw [List.flatMap_cons, List.length_append, ih]; simp [encS]; omega
theorem encS_one (G : List SpH) : ∀ u ∈ G.flatMap encS, u.oneCell' = true := fun u hu => by
 obtain ⟨p, _, hp⟩ := List.mem_flatMap.1 hu
 simp [encS] at hp
 rcases hp with rfl | rfl | rfl | rfl | rfl | rfl | rfl | rfl <;> rfl
theorem encS_at : ∀ (G : List SpH) (k : Nat) (p : SpH), G[k]? = some p → ∀ j u, (encS p)[j]? = some u → (G.flatMap encS)[k * 8 + j]? = some u
  | [], _, _, h, _, _, _ => by simp at h
  | q :: G, 0, p, h, j, u, hu => by
    have h : q = p := by simpa using h
    subst h
    rw [List.flatMap_cons, Nat.zero_mul, Nat.zero_add, List.getElem?_append_left]
    · exact hu
    · exact (List.getElem?_eq_some_iff.1 hu).1
  | q :: G, k + 1, p, h, j, u, hu => by
    have := encS_at G k p (by simpa using h) j u hu
    rw [List.flatMap_cons, show (k + 1) * 8 + j = (k * 8 + j) + 8 by omega, List.getElem?_append_right (by simp [encS])]
    simpa [encS] using this
end

end Go.Proofs.YtippadnbngcjlaaGreatDoor
