/- Texts of this seat, one behind the other: MinT, Lst, Cnt, Dif, MinS, Min, IList, IList2, RLst, Lev, ICnt, ICnt2, Awake. -/
import Derived.Test.YtjpbmbonccenfaaDoorZSurp14
import Derived.Test.YtjpbmbonccenfaaDoorZSurp28
import Derived.Test.YtjpbmbonccenfaaDoorZSurp24
import Derived.Test.YtjpbmbonccenfaaDoorZSurp29
import Derived.Test.YtjpbmbonccenfaaDoorZSurp23
import Derived.Test.YtjpbmbonccenfaaDoorZSurp22
/- minimal, as a tree of questions. -/
namespace Go.Proofs.YtjpbmbonccenfaaDoor
open Go.RowKit
set_option linter.unusedVariables false

/-- Questions one after the other, till one fails. -/
def scanT {α : Type} (f : List Int → Tr (List Int) Int α) (d : Tr (List Int) Int α) : List (List Int) → Tr (List Int) Int α
  | [] => d
  | q :: qs => .ask q fun v => if v = 2 then f q else scanT f d qs
section
variable {α : Type} {f : List Int → Tr (List Int) Int α} {d : Tr (List Int) Int α} {qs : List (List Int)} {k : Nat} {q : List Int} {ans : List Int} {u u' : Nat} {kn kn' : Kn} {v : Int}
theorem scan_done (h : qs.length ≤ k) : scanT f d (qs.drop k) = d := by rw [List.drop_of_length_le h]; rfl
theorem scan_at (h : qs[k]? = some q) : scanT f d (qs.drop k) = .ask q fun v => if v = 2 then f q else scanT f d (qs.drop (k + 1)) := by
  have hk := (List.getElem?_eq_some_iff.1 h).1
  have he : qs[k] = q := (List.getElem?_eq_some_iff.1 h).2
  rw [List.drop_eq_getElem_cons hk, he]
  rfl
theorem scan_none (h : qs[k]? = some q) (ha : askV ans u kn q = none) : (scanT f d (qs.drop k)).go (askS ans) (u, kn) = .inl q := by
  rw [scan_at h]; exact Tr.go_none (askS_none ha)
theorem scan_some (h : qs[k]? = some q) (ha : askV ans u kn q = some (v, u', kn')) : (scanT f d (qs.drop k)).go (askS ans) (u, kn) = (if v = 2 then f q else scanT f d (qs.drop (k + 1))).go (askS ans) (u', kn') := by
  rw [scan_at h]; exact Tr.go_some (askS_some ha)
end

/-- The last question of a set of one element. -/
def minFin (c : List Int) : Tr (List Int) Int (List Int) := if c.length = 1 then .ask [] fun v => .ret (if v = 2 then [] else c) else .ret c
/-- The steps 2 and 3 of List. -/
def minT : Nat → List Int → Nat → Tr (List Int) Int (List Int)
  | 0, c, _ => .ret c
  | t + 1, c, g => if 2 ≤ c.length then
      scanT (fun x => minT t x 2) (scanT (fun x => minT t x (max (g - 1) 2)) (if c.length ≤ g then minFin c else minT t c (min (2 * g) c.length)) ((chunksOf c g).map (minus c))) (chunksOf c g)
    else minFin c
/-- How long it may go on. -/
def minM (c : List Int) (g : Nat) : Nat := c.length * 1000 + (c.length - g)

theorem chunkOf_sub (xs : List Int) (N k : Nat) : (chunkOf xs N k).Sublist xs := (List.take_sublist _ _).trans (List.drop_sublist _ _)
theorem isSet_sub {n : Int} {xs ys : List Int} (h : isSet n xs = true) (hs : ys.Sublist xs) : isSet n ys = true := by
  obtain ⟨h1, h2⟩ := isSet_iff.1 h
  exact isSet_iff.2 ⟨fun x hx => h1 x (hs.subset hx), h2.sublist hs⟩
theorem isSet_minus {n : Int} {xs : List Int} (h : isSet n xs = true) (ys : List Int) : isSet n (minus xs ys) = true := isSet_sub h List.filter_sublist
theorem chunk_len {xs : List Int} {N k : Nat} (hN : 2 ≤ N) (hNm : N ≤ xs.length) (hk : k < N) : 0 < (chunkOf xs N k).length ∧ (chunkOf xs N k).length < xs.length := by
  rw [chunkOf_length hk]
  have h1 := cut_lt hk hNm
  have h2 := cut_le (m := xs.length) hk
  refine ⟨by omega, ?_⟩
  rcases Nat.eq_zero_or_pos k with rfl | h0
  · have : (0 + 1) * xs.length / N < xs.length := by
      rw [Nat.zero_add, Nat.one_mul]
      exact Nat.div_lt_self (by omega) (by omega)
    have := Nat.sub_le ((0 + 1) * xs.length / N) (0 * xs.length / N)
    omega
  · have : 0 < k * xs.length / N := Nat.div_pos (Nat.le_trans hNm (Nat.le_mul_of_pos_left _ h0)) (by omega)
    omega
theorem minus_len {xs ys : List Int} (h0 : 0 < ys.length) (hs : ∀ y ∈ ys, y ∈ xs) : (minus xs ys).length < xs.length := by
  obtain ⟨y, hy⟩ := List.exists_mem_of_length_pos h0
  unfold minus
  rw [List.length_filter_lt_length_iff_exists]
  refine ⟨y, hs y hy, ?_⟩
  simpa using hy
theorem cutN_ge {m g : Nat} (hg : 2 ≤ g) (hm : 2 ≤ m) : 2 ≤ cutN m g := by unfold cutN; omega
theorem chunk_get {c : List Int} {g k : Nat} (hk : k < cutN c.length g) : (chunksOf c g)[k]? = some (chunkOf c (cutN c.length g) k) := chunksOf_get hk
theorem rest_get {c : List Int} {g k : Nat} (hk : k < cutN c.length g) : ((chunksOf c g).map (minus c))[k]? = some (minus c (chunkOf c (cutN c.length g) k)) := by
  rw [List.getElem?_map, chunk_get hk]; rfl
/-- What a chunk that fails leads to. -/
theorem min_chunk {c : List Int} {g k n : Nat} (hs : isSet n c = true) (hg : 2 ≤ g) (hm : 2 ≤ c.length) (hl : c.length ≤ 256) (hk : k < cutN c.length g) :
    isSet n (chunkOf c (cutN c.length g) k) = true ∧ minM (chunkOf c (cutN c.length g) k) 2 < minM c g ∧ (chunkOf c (cutN c.length g) k).length ≤ 256 := by
  have h1 := chunk_len (cutN_ge hg hm) (cutN_le _ _) hk
  refine ⟨isSet_sub hs (chunkOf_sub _ _ _), ?_, by omega⟩
  unfold minM
  omega
theorem min_rest {c : List Int} {g k n : Nat} (hs : isSet n c = true) (hg : 2 ≤ g) (hm : 2 ≤ c.length) (hl : c.length ≤ 256) (hk : k < cutN c.length g) :
    isSet n (minus c (chunkOf c (cutN c.length g) k)) = true ∧ minM (minus c (chunkOf c (cutN c.length g) k)) (max (g - 1) 2) < minM c g ∧ (minus c (chunkOf c (cutN c.length g) k)).length ≤ 256 := by
  have h1 := chunk_len (cutN_ge hg hm) (cutN_le _ _) hk
  have h2 := minus_len h1.1 fun y hy => (chunkOf_sub _ _ _).subset hy
  refine ⟨isSet_minus hs _, ?_, by omega⟩
  unfold minM
  omega
theorem min_finer {c : List Int} {g : Nat} (hg : 2 ≤ g) (hl : g < c.length) : minM c (min (2 * g) c.length) < minM c g ∧ 2 ≤ min (2 * g) c.length := by
  unfold minM
  omega
theorem minT_le1 {t : Nat} {c : List Int} {g : Nat} (h : ¬ 2 ≤ c.length) : minT (t + 1) c g = minFin c := if_neg h
theorem minT_two {t : Nat} {c : List Int} {g : Nat} (h : 2 ≤ c.length) : minT (t + 1) c g =
    scanT (fun x => minT t x 2) (scanT (fun x => minT t x (max (g - 1) 2)) (if c.length ≤ g then minFin c else minT t c (min (2 * g) c.length)) ((chunksOf c g).map (minus c))) (chunksOf c g) := if_pos h
end Go.Proofs.YtjpbmbonccenfaaDoor

/- List as a tree of questions. -/
namespace Go.Proofs.YtjpbmbonccenfaaDoor
open Go.RowKit
set_option linter.unusedVariables false

namespace Tr
section
variable {Q A α β S : Type}
def map (f : α → β) : Tr Q A α → Tr Q A β
  | .ret a => .ret (f a)
  | .ask q k => .ask q fun v => (k v).map f
theorem go_map (f : α → β) (step : S → Q → Option (A × S)) : ∀ (t : Tr Q A α) (s : S), (t.map f).go step s = match t.go step s with | .inl q => .inl q | .inr (a, s') => .inr (f a, s')
  | .ret a, s => rfl
  | .ask q k, s => by
    rcases h : step s q with _ | ⟨v, s'⟩
    · rw [map, go_none h, go_none h]
    · rw [map, go_some h, go_some h]; exact go_map f step (k v) s'
theorem res_map (f : α → β) (o : Q → A) : ∀ t : Tr Q A α, (t.map f).res o = f (t.res o)
  | .ret _ => rfl
  | .ask q k => res_map f o (k (o q))
theorem all_map {f : α → β} {P : Q → Prop} : ∀ {t : Tr Q A α}, t.All P → (t.map f).All P
  | .ret _, _ => trivial
  | .ask q k, h => ⟨h.1, fun v => all_map (h.2 v)⟩
theorem ends_true {P : α → Prop} (h : ∀ a, P a) : ∀ t : Tr Q A α, t.Ends P
  | .ret a => h a
  | .ask q k => fun v => ends_true h (k v)
theorem ends_map {f : α → β} {P : β → Prop} : ∀ {t : Tr Q A α}, t.Ends (fun a => P (f a)) → (t.map f).Ends P
  | .ret _, h => h
  | .ask q k, h => fun v => ends_map (h v)
end
end Tr

section
variable {α : Type} {f : List Int → Tr (List Int) Int α} {d : Tr (List Int) Int α} {P : List Int → Prop} {R : α → Prop}
theorem scan_all (hd : d.All P) : ∀ {qs : List (List Int)}, (∀ q ∈ qs, P q ∧ (f q).All P) → (scanT f d qs).All P
  | [], _ => hd
  | q :: qs, h => ⟨(h q (by simp)).1, fun v => by
    show Tr.All P (if v = 2 then _ else _)
    split
    · exact (h q (by simp)).2
    · exact scan_all hd fun x hx => h x (by simp [hx])⟩
theorem scan_ends (hd : d.Ends R) : ∀ {qs : List (List Int)}, (∀ q ∈ qs, (f q).Ends R) → (scanT f d qs).Ends R
  | [], _ => hd
  | q :: qs, h => fun v => by
    show Tr.Ends R (if v = 2 then _ else _)
    split
    · exact h q (by simp)
    · exact scan_ends hd fun x hx => h x (by simp [hx])
end
theorem chunksOf_sub {xs l : List Int} {g : Int} (h : l ∈ chunksOf xs g) : l.Sublist xs := by
  unfold chunksOf at h
  obtain ⟨k, _, rfl⟩ := List.mem_map.1 h
  exact chunkOf_sub _ _ _
theorem isSet_nil (n : Int) : isSet n [] = true := isSet_iff.2 ⟨by simp, by simp⟩
theorem minFin_all {n : Int} {c : List Int} : (minFin c).All fun q => isSet n q = true := by
  unfold minFin
  split
  · exact ⟨isSet_nil n, fun v => trivial⟩
  · trivial
theorem minFin_ends {n : Int} {c : List Int} (h : isSet n c = true) : (minFin c).Ends fun q => isSet n q = true := by
  unfold minFin
  split
  · intro v
    show isSet n (if v = 2 then [] else c) = true
    split
    · exact isSet_nil n
    · exact h
  · exact h
theorem minT_all {n : Int} : ∀ (t : Nat) (c : List Int) (g : Nat), isSet n c = true → (minT t c g).All fun q => isSet n q = true
  | 0, _, _, _ => trivial
  | t + 1, c, g, h => by
    by_cases h2 : 2 ≤ c.length
    · rw [minT_two h2]
      refine scan_all (scan_all ?_ fun q hq => ?_) fun q hq => ?_
      · split
        · exact minFin_all
        · exact minT_all t _ _ h
      · obtain ⟨x, _, rfl⟩ := List.mem_map.1 hq
        exact ⟨isSet_minus h x, minT_all t _ _ (isSet_minus h x)⟩
      · have := isSet_sub h (chunksOf_sub hq)
        exact ⟨this, minT_all t _ _ this⟩
    · rw [minT_le1 h2]; exact minFin_all
theorem minT_ends {n : Int} : ∀ (t : Nat) (c : List Int) (g : Nat), isSet n c = true → (minT t c g).Ends fun q => isSet n q = true
  | 0, _, _, h => h
  | t + 1, c, g, h => by
    by_cases h2 : 2 ≤ c.length
    · rw [minT_two h2]
      refine scan_ends (scan_ends ?_ fun q hq => ?_) fun q hq => ?_
      · split
        · exact minFin_ends h
        · exact minT_ends t _ _ h
      · obtain ⟨x, _, rfl⟩ := List.mem_map.1 hq
        exact minT_ends t _ _ (isSet_minus h x)
      · exact minT_ends t _ _ (isSet_sub h (chunksOf_sub hq))
    · rw [minT_le1 h2]; exact minFin_ends h

/-- List. -/
def listT (n : Nat) : Tr (List Int) Int Res := .ask (upTo n) fun v => if v = 2 then (minT (minM (upTo n) 2 + 1) (upTo n) 2).map fun c => (0, c, []) else .ret (7, [], [])
def listOf (n : Int) (ans : List Int) : Qst × Int := if 256 < n then (qNone, 3) else qOf ans (listT n.toNat)
end Go.Proofs.YtjpbmbonccenfaaDoor

/- Counted, as a tree of questions. -/
namespace Go.Proofs.YtjpbmbonccenfaaDoor
open Go.RowKit
set_option linter.unusedVariables false

/-- How many items a group of a level has. -/
def szOf (s k : Nat) : Nat := max (s / 2 ^ k) 1
/-- The last level. -/
def lastOf (s : Nat) : Nat := Nat.log2 s
theorem last_is {s l : Nat} (hs : 1 ≤ s) (h1 : s / 2 ^ l ≤ 1) (h2 : ∀ j, j < l → 1 < s / 2 ^ j) : l = lastOf s := by
  have hp : 0 < 2 ^ l := Nat.pow_pos (by omega)
  have e1 : s < 2 ^ (l + 1) := by
    rw [Nat.pow_succ]
    have := (Nat.div_lt_iff_lt_mul hp).1 (Nat.lt_succ_of_le h1)
    omega
  have e2 : lastOf s < l + 1 := (Nat.log2_lt (by omega)).2 e1
  rcases Nat.lt_or_ge (lastOf s) l with h | h
  · have h3 := h2 _ h
    have hp2 : 0 < 2 ^ lastOf s := Nat.pow_pos (by omega)
    have h4 := (Nat.le_div_iff_mul_le hp2).1 (Nat.succ_le_of_lt h3)
    have h5 : s < 2 ^ (lastOf s + 1) := (Nat.log2_lt (n := s) (by omega)).1 (Nat.lt_succ_self _)
    rw [Nat.pow_succ] at h5
    omega
  · omega
theorem last_le {s : Nat} (hs : 1 ≤ s) (hb : s ≤ 256) : lastOf s ≤ 8 := by
  have : lastOf s < 9 := (Nat.log2_lt (by omega)).2 (by omega)
  omega
theorem sz_last {s : Nat} (hs : 1 ≤ s) : szOf s (lastOf s) = 1 := by
  have h5 : s < 2 ^ (lastOf s + 1) := (Nat.log2_lt (n := s) (by omega)).1 (Nat.lt_succ_self _)
  have hp2 : 0 < 2 ^ lastOf s := Nat.pow_pos (by omega)
  rw [Nat.pow_succ] at h5
  have : s / 2 ^ lastOf s < 2 := (Nat.div_lt_iff_lt_mul hp2).2 (by omega)
  unfold szOf
  omega
theorem sz_pos (s k : Nat) : 1 ≤ szOf s k := by unfold szOf; omega

/-- The level of an element. -/
def levOf (lev : List Int) (x : Int) : Int := lev.getD x.toNat 0
/-- The lowest level of some elements. -/
def lowOf (last : Nat) (lev kept : List Int) : Int := kept.foldl (fun m x => min m (levOf lev x)) (last + 1)
/-- The next group. -/
def grpOf (s : Nat) (lev kept : List Int) (low : Int) : List Int := (kept.filter fun x => levOf lev x == low).take (szOf s low.toNat)
/-- A group goes up one level. -/
def bumpL (lev xs : List Int) : List Int := xs.foldl (fun l x => l.set x.toNat (levOf l x + 1)) lev
/-- No element lies above the last level. -/
def capL (last : Nat) (lev xs : List Int) : List Int := xs.foldl (fun l x => l.set x.toNat (min (levOf l x) last)) lev
section
variable {s last n : Nat} {lev kept xs : List Int} {x y low : Int}
theorem levOf_set {v : Int} (hx : 0 ≤ x ∧ x < lev.length) (hy : 0 ≤ y) : levOf (lev.set x.toNat v) y = if y = x then v else levOf lev y := by
  unfold levOf
  by_cases h : y = x
  · subst h
    have : y.toNat < lev.length := by omega
    simp [List.getD_eq_getElem?_getD, this]
  · have : x.toNat ≠ y.toNat := by omega
    simp [List.getD_eq_getElem?_getD, this, h]
theorem bumpL_length : ∀ (xs lev : List Int), (bumpL lev xs).length = lev.length
  | [], _ => rfl
  | x :: xs, lev => by
    show (bumpL (lev.set x.toNat (levOf lev x + 1)) xs).length = _
    rw [bumpL_length xs]; simp
theorem capL_length : ∀ (xs lev : List Int), (capL last lev xs).length = lev.length
  | [], _ => rfl
  | x :: xs, lev => by
    show (capL last (lev.set x.toNat (min (levOf lev x) last)) xs).length = _
    rw [capL_length xs]; simp
theorem levOf_bump : ∀ (xs lev : List Int), (∀ x ∈ xs, 0 ≤ x ∧ x < lev.length) → xs.Nodup → ∀ y, 0 ≤ y → levOf (bumpL lev xs) y = if y ∈ xs then levOf lev y + 1 else levOf lev y
  | [], _, _, _, y, _ => by simp [bumpL]
  | x :: xs, lev, hi, hn, y, hy => by
    obtain ⟨h1, h2⟩ := List.nodup_cons.1 hn
    show levOf (bumpL (lev.set x.toNat (levOf lev x + 1)) xs) y = _
    rw [levOf_bump xs _ (fun z hz => by simpa using hi z (by simp [hz])) h2 y hy, levOf_set (hi x (by simp)) hy]
    by_cases he : y = x
    · subst he; simp [h1]
    · simp [he]
theorem levOf_cap : ∀ (xs lev : List Int), (∀ x ∈ xs, 0 ≤ x ∧ x < lev.length) → xs.Nodup → ∀ y, 0 ≤ y → levOf (capL last lev xs) y = if y ∈ xs then min (levOf lev y) last else levOf lev y
  | [], _, _, _, y, _ => by simp [capL]
  | x :: xs, lev, hi, hn, y, hy => by
    obtain ⟨h1, h2⟩ := List.nodup_cons.1 hn
    show levOf (capL last (lev.set x.toNat (min (levOf lev x) last)) xs) y = _
    rw [levOf_cap xs _ (fun z hz => by simpa using hi z (by simp [hz])) h2 y hy, levOf_set (hi x (by simp)) hy]
    by_cases he : y = x
    · subst he; simp [h1]
    · simp [he]
theorem low_fold (lev : List Int) : ∀ (xs : List Int) (m : Int), xs.foldl (fun m x => min m (levOf lev x)) m ≤ m ∧ (∀ x ∈ xs, xs.foldl (fun m x => min m (levOf lev x)) m ≤ levOf lev x) ∧ (xs.foldl (fun m x => min m (levOf lev x)) m = m ∨ ∃ x ∈ xs, xs.foldl (fun m x => min m (levOf lev x)) m = levOf lev x)
  | [], m => by simp
  | x :: xs, m => by
    obtain ⟨h1, h2, h3⟩ := low_fold lev xs (min m (levOf lev x))
    simp only [List.foldl_cons]
    refine ⟨by omega, fun y hy => ?_, ?_⟩
    · rcases List.mem_cons.1 hy with rfl | hy
      · omega
      · exact h2 y hy
    · rcases h3 with h3 | ⟨y, hy, h3⟩
      · by_cases hm : m ≤ levOf lev x
        · left; omega
        · right; exact ⟨x, by simp, by omega⟩
      · right; exact ⟨y, by simp [hy], h3⟩
theorem low_le : lowOf last lev kept ≤ last + 1 := (low_fold lev kept _).1
theorem low_mem (h : x ∈ kept) : lowOf last lev kept ≤ levOf lev x := (low_fold lev kept _).2.1 x h
theorem low_at (h : ¬ (last : Int) < lowOf last lev kept) : ∃ x ∈ kept, lowOf last lev kept = levOf lev x := by
  rcases (low_fold lev kept (last + 1)).2.2 with h1 | h1
  · unfold lowOf at h; omega
  · exact h1
theorem grp_sub : (grpOf s lev kept low).Sublist kept := (List.take_sublist _ _).trans List.filter_sublist
theorem grp_mem (h : x ∈ grpOf s lev kept low) : x ∈ kept ∧ levOf lev x = low := by
  have := List.mem_filter.1 ((List.take_sublist _ _).subset h)
  exact ⟨this.1, by simpa using this.2⟩
theorem grp_pos (h : ∃ x ∈ kept, low = levOf lev x) : 0 < (grpOf s lev kept low).length := by
  obtain ⟨x, hx, he⟩ := h
  have h1 : x ∈ kept.filter fun x => levOf lev x == low := List.mem_filter.2 ⟨hx, by simp [he]⟩
  have h2 := List.length_pos_of_mem h1
  have h3 := sz_pos s low.toNat
  unfold grpOf
  rw [List.length_take]
  omega
theorem grp_len : (grpOf s lev kept low).length ≤ szOf s low.toNat := by unfold grpOf; rw [List.length_take]; omega
/-- What holds between two questions. -/
structure CInv (n last : Nat) (kept lev : List Int) : Prop where
  set : isSet n kept = true
  len : lev.length = n
  lo : ∀ x ∈ kept, 0 ≤ levOf lev x ∧ levOf lev x ≤ last + 1
theorem CInv.in_ (h : CInv n last kept lev) (hx : x ∈ kept) : 0 ≤ x ∧ x < lev.length := by
  have := (isSet_iff.1 h.set).1 x hx
  have := h.len
  omega
theorem set_nodup {n : Int} {xs : List Int} (h : isSet n xs = true) : xs.Nodup := (isSet_iff.1 h).2.imp (fun h => by omega)
/-- How much is left to do. -/
def cntM (last : Nat) (kept lev : List Int) : Nat := kept.length * 10000 + (kept.map fun x => (last + 1 - levOf lev x).toNat).sum
theorem sum_le {f : Int → Nat} {b : Nat} : ∀ (xs : List Int), (∀ x ∈ xs, f x ≤ b) → (xs.map f).sum ≤ xs.length * b
  | [], _ => by simp
  | x :: xs, h => by
    have h1 := sum_le xs fun y hy => h y (by simp [hy])
    have h2 := h x (by simp)
    simp only [List.map_cons, List.sum_cons, List.length_cons, Nat.succ_mul]
    omega
theorem sum_lt {f g : Int → Nat} : ∀ (xs : List Int), (∀ x ∈ xs, g x ≤ f x) → (∃ x ∈ xs, g x < f x) → (xs.map g).sum < (xs.map f).sum
  | [], _, h => by obtain ⟨x, hx, _⟩ := h; simp at hx
  | x :: xs, h, ⟨y, hy, hlt⟩ => by
    have h2 := h x (by simp)
    simp only [List.map_cons, List.sum_cons]
    have h3 : (xs.map g).sum ≤ (xs.map f).sum := by
      clear hy hlt y h2
      induction xs with
      | nil => simp
      | cons z zs ih =>
        have h4 := h z (by simp)
        have := ih fun w hw => h w (by rcases List.mem_cons.1 hw with rfl | hw <;> simp_all)
        simp only [List.map_cons, List.sum_cons]
        omega
    rcases List.mem_cons.1 hy with rfl | hy
    · omega
    · have := sum_lt xs (fun z hz => h z (by simp [hz])) ⟨y, hy, hlt⟩
      omega
theorem cnt_bump (h : CInv n last kept lev) (hg : xs.Sublist kept) (h0 : 0 < xs.length) (hl : ∀ x ∈ xs, levOf lev x ≤ last) : CInv n last kept (bumpL lev xs) ∧ cntM last kept (bumpL lev xs) < cntM last kept lev := by
  have hb : ∀ y ∈ kept, levOf (bumpL lev xs) y = if y ∈ xs then levOf lev y + 1 else levOf lev y := fun y hy =>
    levOf_bump xs lev (fun x hx => h.in_ (hg.subset hx)) ((set_nodup h.set).sublist hg) y (h.in_ hy).1
  refine ⟨⟨h.set, by rw [bumpL_length, h.len], fun y hy => ?_⟩, ?_⟩
  · rw [hb y hy]
    have := h.lo y hy
    split
    · rename_i hm; have := hl y hm; omega
    · exact this
  · unfold cntM
    refine Nat.add_lt_add_left (sum_lt kept (fun y hy => ?_) ?_) _
    · rw [hb y hy]; split <;> omega
    · obtain ⟨y, hy⟩ := List.exists_mem_of_length_pos h0
      have := hl y hy
      exact ⟨y, hg.subset hy, by rw [hb y (hg.subset hy), if_pos hy]; omega⟩
theorem cnt_cap (h : CInv n last kept lev) (hg : xs.Sublist kept) (h0 : xs.length < kept.length) (hl : last ≤ 8) (hk : kept.length ≤ 256) : CInv n last xs (capL last lev xs) ∧ cntM last xs (capL last lev xs) < cntM last kept lev ∧ ∀ y ∈ xs, levOf (capL last lev xs) y ≤ last := by
  have hb : ∀ y ∈ xs, levOf (capL last lev xs) y = min (levOf lev y) last := fun y hy => by
    rw [levOf_cap xs lev (fun x hx => h.in_ (hg.subset hx)) ((set_nodup h.set).sublist hg) y (h.in_ (hg.subset hy)).1, if_pos hy]
  refine ⟨⟨isSet_sub h.set hg, by rw [capL_length, h.len], fun y hy => ?_⟩, ?_, fun y hy => by rw [hb y hy]; omega⟩
  · rw [hb y hy]
    have := h.lo y (hg.subset hy)
    omega
  · have := sum_le (f := fun x => ((last : Int) + 1 - levOf (capL last lev xs) x).toNat) (b := 9) xs fun y hy => by
      rw [hb y hy]
      have := h.lo y (hg.subset hy)
      omega
    unfold cntM
    have := hg.length_le
    omega
end
/-- The search. -/
def cntT (s : Nat) : Nat → List Int → List Int → Tr (List Int) Int Res
  | 0, kept, _ => .ret (0, kept, [])
  | t + 1, kept, lev => if (lastOf s : Int) < lowOf (lastOf s) lev kept then .ret (0, kept, []) else
      .ask (minus kept (grpOf s lev kept (lowOf (lastOf s) lev kept))) fun v =>
        if v = 2 then cntT s t (minus kept (grpOf s lev kept (lowOf (lastOf s) lev kept))) (capL (lastOf s) lev (minus kept (grpOf s lev kept (lowOf (lastOf s) lev kept))))
        else cntT s t kept (bumpL lev (grpOf s lev kept (lowOf (lastOf s) lev kept)))
/-- The levels at first. -/
def lev0 (n : Nat) : List Int := List.replicate n 0
def countT (s n : Nat) : Tr (List Int) Int Res := .ask (upTo n) fun v => if v = 2 then cntT s (cntM (lastOf s) (upTo n) (lev0 n) + 1) (upTo n) (lev0 n) else .ret (7, [], [])
/-- The start, as it counts. -/
def startOf (start : Int) : Nat := (min (max start 1) 256).toNat
theorem startOf_in (start : Int) : 1 ≤ startOf start ∧ startOf start ≤ 256 := by unfold startOf; omega
def countedOf (n start : Int) (ans : List Int) : Qst × Int := if 256 < n then (qNone, 3) else qOf ans (countT (startOf start) n.toNat)

section
variable {s t n : Nat} {kept lev : List Int}
theorem cnt_end (h : (lastOf s : Int) < lowOf (lastOf s) lev kept) : cntT s (t + 1) kept lev = .ret (0, kept, []) := if_pos h
theorem cnt_ask {low : Int} {g r : List Int} (hl : lowOf (lastOf s) lev kept = low) (h : ¬ (lastOf s : Int) < low) (hg : grpOf s lev kept low = g) (hr : minus kept g = r) :
    cntT s (t + 1) kept lev = .ask r fun v => if v = 2 then cntT s t r (capL (lastOf s) lev r) else cntT s t kept (bumpL lev g) := by
  subst hl hg hr
  exact if_neg h
theorem cnt_first (n last : Nat) : CInv n last (upTo n) (lev0 n) := by
  refine ⟨upTo_set n, by simp [lev0], fun x hx => ?_⟩
  have : levOf (lev0 n) x = 0 := by
    unfold levOf lev0
    have := mem_upTo.1 hx
    rw [List.getD_eq_getElem?_getD, List.getElem?_replicate]
    split <;> rfl
  rw [this]
  omega
/-- The steps of a round. -/
structure CStep (n s : Nat) (kept lev : List Int) (g : List Int) : Prop where
  sub : g.Sublist kept
  pos : 0 < g.length
  up : ∀ x ∈ g, levOf lev x ≤ lastOf s
  bump : CInv n (lastOf s) kept (bumpL lev g) ∧ cntM (lastOf s) kept (bumpL lev g) < cntM (lastOf s) kept lev
  set : isSet n (minus kept g) = true
  cap : CInv n (lastOf s) (minus kept g) (capL (lastOf s) lev (minus kept g)) ∧ cntM (lastOf s) (minus kept g) (capL (lastOf s) lev (minus kept g)) < cntM (lastOf s) kept lev
  low : ∀ y ∈ minus kept g, levOf (capL (lastOf s) lev (minus kept g)) y ≤ lastOf s
theorem cnt_step (h : CInv n (lastOf s) kept lev) (hs : 1 ≤ s) (hb : s ≤ 256) (hk : kept.length ≤ 256) (hlow : ¬ (lastOf s : Int) < lowOf (lastOf s) lev kept) : CStep n s kept lev (grpOf s lev kept (lowOf (lastOf s) lev kept)) := by
  have hg := grp_sub (s := s) (lev := lev) (kept := kept) (low := lowOf (lastOf s) lev kept)
  have h0 := grp_pos (s := s) (low_at hlow)
  have hup : ∀ x ∈ grpOf s lev kept (lowOf (lastOf s) lev kept), levOf lev x ≤ lastOf s := fun x hx => by have := (grp_mem hx).2; omega
  have hm : (minus kept (grpOf s lev kept (lowOf (lastOf s) lev kept))).Sublist kept := List.filter_sublist
  obtain ⟨c1, c2, c3⟩ := cnt_cap h hm (minus_len h0 fun y hy => hg.subset hy) (last_le hs hb) hk
  exact ⟨hg, h0, hup, cnt_bump h hg h0 hup, isSet_minus h.set _, ⟨c1, c2⟩, c3⟩
theorem cntT_all (hs : 1 ≤ s) (hb : s ≤ 256) : ∀ (t : Nat) (kept lev : List Int), CInv n (lastOf s) kept lev → kept.length ≤ 256 → (cntT s t kept lev).All fun q => isSet n q = true
  | 0, _, _, _, _ => trivial
  | t + 1, kept, lev, h, hk => by
    by_cases hlow : (lastOf s : Int) < lowOf (lastOf s) lev kept
    · rw [cnt_end hlow]; trivial
    · have st := cnt_step h hs hb hk hlow
      rw [cnt_ask rfl hlow rfl rfl]
      refine ⟨st.set, fun v => ?_⟩
      show Tr.All _ (if v = 2 then _ else _)
      split
      · exact cntT_all hs hb t _ _ st.cap.1 (by have := minus_le kept (grpOf s lev kept (lowOf (lastOf s) lev kept)); omega)
      · exact cntT_all hs hb t _ _ st.bump.1 hk
theorem countT_all (hs : 1 ≤ s) (hb : s ≤ 256) (hn : n ≤ 256) : (countT s n).All fun q => isSet n q = true := ⟨upTo_set n, fun v => by
  show Tr.All _ (if v = 2 then _ else _)
  split
  · exact cntT_all hs hb _ _ _ (cnt_first n _) (by rw [upTo_length]; exact hn)
  · trivial⟩
theorem cntT_pass : ∀ (t : Nat) (kept lev : List Int), (cntT s t kept lev).Ends fun r => r.2.2 = []
  | 0, _, _ => rfl
  | t + 1, kept, lev => by
    by_cases hlow : (lastOf s : Int) < lowOf (lastOf s) lev kept
    · rw [cnt_end hlow]; rfl
    · rw [cnt_ask rfl hlow rfl rfl]
      intro v
      show Tr.Ends _ (if v = 2 then _ else _)
      split
      · exact cntT_pass t _ _
      · exact cntT_pass t _ _
theorem countT_pass (s n : Nat) : (countT s n).Ends fun r => r.2.2 = [] := fun v => by
  show Tr.Ends _ (if v = 2 then _ else _)
  split
  · exact cntT_pass _ _ _
  · rfl
/-- A result that fails, and that without any one of its elements does not. -/
structure SetOk (n : Nat) (o : List Int → Int) (r : Res) : Prop where
  er : r.1 = 0
  pass : r.2.2 = []
  set : isSet n r.2.1 = true
  fails : o r.2.1 = 2
  min : ∀ x ∈ r.2.1, o (minus r.2.1 [x]) ≠ 2
theorem cntT_ok (hs : 1 ≤ s) (hb : s ≤ 256) (o : List Int → Int) (t : Nat) : ∀ (kept lev : List Int), CInv n (lastOf s) kept lev → kept.length ≤ 256 → cntM (lastOf s) kept lev < t → Hid (o kept = 2) → (∀ x ∈ kept, levOf lev x = lastOf s + 1 → o (minus kept [x]) ≠ 2) → SetOk n o ((cntT s t kept lev).res o) := by
  induction t with
  | zero => intro kept lev _ _ h; exact absurd h (Nat.not_lt_zero _)
  | succ t ih =>
    intro kept lev h hk hm h2 h3
    by_cases hlow : (lastOf s : Int) < lowOf (lastOf s) lev kept
    · rw [cnt_end hlow]
      refine ⟨rfl, rfl, h.set, h2.out, fun x hx => h3 x hx ?_⟩
      have hx : x ∈ kept := hx
      have := low_mem (last := lastOf s) (lev := lev) hx
      have := (h.lo x hx).2
      omega
    · have st := cnt_step h hs hb hk hlow
      rw [cnt_ask rfl hlow rfl rfl, Tr.res]
      by_cases hv : o (minus kept (grpOf s lev kept (lowOf (lastOf s) lev kept))) = 2
      · rw [if_pos hv]
        refine ih _ _ st.cap.1 (Nat.le_trans (minus_le kept _) hk) (Nat.lt_of_lt_of_le st.cap.2 (Nat.le_of_lt_succ hm)) hv fun x hx hl => ?_
        have := st.low x hx
        omega
      · rw [if_neg hv]
        refine ih _ _ st.bump.1 hk (Nat.lt_of_lt_of_le st.bump.2 (Nat.le_of_lt_succ hm)) h2 fun x hx hl => ?_
        have hb2 := levOf_bump (grpOf s lev kept (lowOf (lastOf s) lev kept)) lev (fun y hy => h.in_ (st.sub.subset hy)) ((set_nodup h.set).sublist st.sub) x (h.in_ hx).1
        rw [hb2] at hl
        by_cases hg : x ∈ grpOf s lev kept (lowOf (lastOf s) lev kept)
        · rw [if_pos hg] at hl
          have h4 := (grp_mem hg).2
          have h5 : (lowOf (lastOf s) lev kept).toNat = lastOf s := by omega
          have h6 := grp_len (s := s) (lev := lev) (kept := kept) (low := lowOf (lastOf s) lev kept)
          rw [h5, sz_last hs] at h6
          have h7 : grpOf s lev kept (lowOf (lastOf s) lev kept) = [x] := by
            generalize grpOf s lev kept (lowOf (lastOf s) lev kept) = g at hg h6
            match g, h6, hg with
            | [y], _, hg => simp at hg; rw [hg]
          rw [h7] at hv
          exact hv
        · rw [if_neg hg] at hl
          exact h3 x hx hl
theorem countT_ok (hs : 1 ≤ s) (hb : s ≤ 256) (hn : n ≤ 256) (o : List Int → Int) : if o (upTo n) = 2 then SetOk n o ((countT s n).res o) else (countT s n).res o = (7, [], []) := by
  unfold countT
  rw [Tr.res]
  by_cases hv : o (upTo n) = 2
  · simp only [if_pos hv]
    refine cntT_ok hs hb o _ _ _ (cnt_first n _) (by rw [upTo_length]; exact hn) (Nat.lt_succ_self _) hv fun x hx hl => ?_
    have : levOf (lev0 n) x = 0 := by
      unfold levOf lev0
      rw [List.getD_eq_getElem?_getD, List.getElem?_replicate]
      split <;> rfl
    omega
  · simp only [if_neg hv]; rfl
end
end Go.Proofs.YtjpbmbonccenfaaDoor

/- Difference, as a tree of questions; what the results of List and Difference are. -/
namespace Go.Proofs.YtjpbmbonccenfaaDoor
open Go.RowKit
set_option linter.unusedVariables false

section
variable {α : Type}
/-- The chunks of a difference, one after the other. -/
def difScan (kf : List Int → List Int → Nat → Tr (List Int) Int α) (d : Tr (List Int) Int α) (p f : List Int) (g : Nat) : List (List Int) → Tr (List Int) Int α
  | [] => d
  | x :: xs => .ask (plus p x) fun a => .ask (minus f x) fun b =>
      if a = 2 then kf p (plus p x) 2 else if b = 1 then kf (minus f x) f 2 else if a = 1 then kf (plus p x) f (max (g - 1) 2) else if b = 2 then kf p (minus f x) (max (g - 1) 2) else difScan kf d p f g xs
variable {kf : List Int → List Int → Nat → Tr (List Int) Int α} {d : Tr (List Int) Int α} {p f x : List Int} {g k : Nat} {qs : List (List Int)}
theorem dif_at (h : qs[k]? = some x) : difScan kf d p f g (qs.drop k) = .ask (plus p x) fun a => .ask (minus f x) fun b =>
      if a = 2 then kf p (plus p x) 2 else if b = 1 then kf (minus f x) f 2 else if a = 1 then kf (plus p x) f (max (g - 1) 2) else if b = 2 then kf p (minus f x) (max (g - 1) 2) else difScan kf d p f g (qs.drop (k + 1)) := by
  have hk := (List.getElem?_eq_some_iff.1 h).1
  have he : qs[k] = x := (List.getElem?_eq_some_iff.1 h).2
  rw [List.drop_eq_getElem_cons hk, he]
  rfl
theorem dif_done (h : qs.length ≤ k) : difScan kf d p f g (qs.drop k) = d := by rw [List.drop_of_length_le h]; rfl
end
/-- The steps of Difference. -/
def difT : Nat → List Int → List Int → Nat → Tr (List Int) Int Res
  | 0, p, f, _ => .ret (0, f, p)
  | t + 1, p, f, g => if p.length + 2 ≤ f.length then
      difScan (difT t) (if (minus f p).length ≤ g then .ret (0, f, p) else difT t p f (min (2 * g) (minus f p).length)) p f g (chunksOf (minus f p) g)
    else .ret (0, f, p)
/-- How long it may go on. -/
def difM (p f : List Int) (g : Nat) : Nat := (f.length - p.length) * 1000 + (f.length - p.length - g)
def differT (n : Nat) : Tr (List Int) Int Res := .ask [] fun v => if v = 1 then .ask (upTo n) fun v => if v = 2 then difT (difM [] (upTo n) 2 + 1) [] (upTo n) 2 else .ret (7, [], []) else .ret (7, [], [])
def differenceOf (n : Int) (ans : List Int) : Qst × Int := if 256 < n then (qNone, 3) else qOf ans (differT n.toNat)

theorem difT_two {t g : Nat} {p f : List Int} (h : p.length + 2 ≤ f.length) : difT (t + 1) p f g = difScan (difT t) (if (minus f p).length ≤ g then .ret (0, f, p) else difT t p f (min (2 * g) (minus f p).length)) p f g (chunksOf (minus f p) g) := if_pos h
theorem difT_one {t g : Nat} {p f : List Int} (h : ¬ p.length + 2 ≤ f.length) : difT (t + 1) p f g = .ret (0, f, p) := if_neg h

/-- Two sets, one within the other. -/
structure DInv (n : Nat) (p f : List Int) : Prop where
  ps : isSet n p = true
  fs : isSet n f = true
  sub : ∀ x ∈ p, x ∈ f
section
variable {n g k : Nat} {p f x d : List Int}
theorem set_len_minus {f p : List Int} (hf : f.Nodup) (hp : p.Nodup) (hs : ∀ x ∈ p, x ∈ f) : (minus f p).length + p.length = f.length := by
  have h1 : (minus f p).length + (f.filter fun x => decide (x ∈ p)).length = f.length := by
    have h0 := List.length_eq_countP_add_countP (l := f) (fun x => decide (x ∈ p))
    unfold minus
    rw [List.countP_eq_length_filter, List.countP_eq_length_filter] at h0
    have e : (f.filter fun x => decide (x ∉ p)) = f.filter fun a => decide ¬(decide (a ∈ p)) = true := List.filter_congr fun a _ => by simp
    rw [e]
    omega
  have h2 : (f.filter fun x => decide (x ∈ p)).length = p.length := by
    refine Nat.le_antisymm (nodup_sub_len' (hf.sublist List.filter_sublist) fun y hy => by simpa using (List.mem_filter.1 hy).2) (nodup_sub_len' hp fun y hy => List.mem_filter.2 ⟨hs y hy, by simpa using hy⟩)
  omega
theorem DInv.len (h : DInv n p f) : (minus f p).length = f.length - p.length ∧ p.length ≤ f.length := by
  have := set_len_minus (set_nodup h.fs) (set_nodup h.ps) h.sub
  omega
/-- What the cases lead to. -/
structure DStep (n g : Nat) (p f x : List Int) : Prop where
  more : isSet n (plus p x) = true
  less : isSet n (minus f x) = true
  c1 : DInv n p (plus p x) ∧ difM p (plus p x) 2 < difM p f g
  c2 : DInv n (minus f x) f ∧ difM (minus f x) f 2 < difM p f g
  c3 : DInv n (plus p x) f ∧ difM (plus p x) f (max (g - 1) 2) < difM p f g
  c4 : DInv n p (minus f x) ∧ difM p (minus f x) (max (g - 1) 2) < difM p f g
  l1 : (plus p x).length ≤ f.length
  l2 : (minus f x).length ≤ f.length
theorem dif_step (h : DInv n p f) (hg : 2 ≤ g) (h2 : p.length + 2 ≤ f.length) (hl : f.length ≤ 256) (hd : minus f p = d) (hk : k < cutN d.length g) (hx : chunkOf d (cutN d.length g) k = x) : DStep n g p f x := by
  obtain ⟨e1, e2⟩ := h.len
  rw [hd] at e1
  have hm : 2 ≤ d.length := by omega
  have h1 := chunk_len (xs := d) (cutN_ge hg hm) (cutN_le _ _) hk
  have hxd : x.Sublist d := by rw [← hx]; exact chunkOf_sub _ _ _
  rw [hx] at h1
  have hds : isSet n d = true := by rw [← hd]; exact isSet_minus h.fs p
  have hxs := isSet_sub hds hxd
  have hxf : ∀ y ∈ x, y ∈ f ∧ y ∉ p := fun y hy => mem_minus.1 (by rw [hd]; exact hxd.subset hy)
  have hmore := plus_set h.ps hxs
  have hless := isSet_minus h.fs x
  have i1 : DInv n p (plus p x) := ⟨h.ps, hmore, fun y hy => mem_plus.2 (.inl hy)⟩
  have i2 : DInv n (minus f x) f := ⟨hless, h.fs, fun y hy => (mem_minus.1 hy).1⟩
  have i3 : DInv n (plus p x) f := ⟨hmore, h.fs, fun y hy => (mem_plus.1 hy).elim (h.sub y) fun hy => (hxf y hy).1⟩
  have i4 : DInv n p (minus f x) := ⟨h.ps, hless, fun y hy => mem_minus.2 ⟨h.sub y hy, fun hx => (hxf y hx).2 hy⟩⟩
  have l2 := set_len_minus (set_nodup h.fs) (set_nodup hxs) fun y hy => (hxf y hy).1
  have l1 : (plus p x).length = p.length + x.length := by
    have a := set_len_minus (set_nodup hmore) (set_nodup h.ps) fun y hy => mem_plus.2 (.inl hy)
    have b : (minus (plus p x) p).length = x.length := by
      refine Nat.le_antisymm (nodup_sub_len' ((set_nodup hmore).sublist List.filter_sublist) fun y hy => ?_) (nodup_sub_len' (set_nodup hxs) fun y hy => mem_minus.2 ⟨mem_plus.2 (.inr hy), (hxf y hy).2⟩)
      obtain ⟨h3, h4⟩ := mem_minus.1 hy
      exact (mem_plus.1 h3).resolve_left h4
    omega
  refine ⟨hmore, hless, ⟨i1, ?_⟩, ⟨i2, ?_⟩, ⟨i3, ?_⟩, ⟨i4, ?_⟩, by omega, by omega⟩ <;> unfold difM <;> omega
theorem dif_finer {t : Nat} (h : DInv n p f) (hg : 2 ≤ g) (hl : g < (minus f p).length) (hb : f.length ≤ 256) : difM p f (min (2 * g) (minus f p).length) < difM p f g ∧ 2 ≤ min (2 * g) (minus f p).length ∧ min (2 * g) (minus f p).length ≤ 256 := by
  obtain ⟨e1, e2⟩ := h.len
  unfold difM
  omega
theorem dif_first (n : Nat) : DInv n [] (upTo n) := ⟨isSet_nil _, upTo_set n, by simp⟩
theorem dif_chunk {d : List Int} (h : k < cutN d.length g) : (chunksOf d g)[k]? = some (chunkOf d (cutN d.length g) k) := chunksOf_get h
theorem mem_chunks {d : List Int} {g : Int} (h : x ∈ chunksOf d g) : ∃ k, k < cutN d.length g ∧ chunkOf d (cutN d.length g) k = x := by
  unfold chunksOf at h
  obtain ⟨k, hk, rfl⟩ := List.mem_map.1 h
  exact ⟨k, by simpa using hk, rfl⟩
theorem difT_all : ∀ (t : Nat) (p f : List Int) (g : Nat), DInv n p f → 2 ≤ g → f.length ≤ 256 → (difT t p f g).All fun q => isSet n q = true
  | 0, _, _, _, _, _, _ => trivial
  | t + 1, p, f, g, h, hg, hl => by
    by_cases h2 : p.length + 2 ≤ f.length
    · rw [difT_two h2]
      have key : ∀ qs : List (List Int), (∀ x ∈ qs, x ∈ chunksOf (minus f p) g) → (difScan (difT t) (if (minus f p).length ≤ g then .ret (0, f, p) else difT t p f (min (2 * g) (minus f p).length)) p f g qs).All fun q => isSet n q = true := by
        intro qs
        induction qs with
        | nil =>
          intro _
          show Tr.All _ (if _ then _ else _)
          split
          · trivial
          · rename_i hlt
            have := dif_finer (t := t) h hg (Nat.lt_of_not_le hlt) hl
            exact difT_all t _ _ _ h this.2.1 hl
        | cons x xs ih =>
          intro hq
          obtain ⟨k, hk, hx⟩ := mem_chunks (hq x (by simp))
          have st := dif_step h hg h2 hl rfl hk hx
          refine ⟨st.more, fun a => ⟨st.less, fun b => ?_⟩⟩
          show Tr.All _ (if _ then _ else _)
          split
          · exact difT_all t _ _ _ st.c1.1 (by omega) (Nat.le_trans st.l1 hl)
          · split
            · exact difT_all t _ _ _ st.c2.1 (by omega) hl
            · split
              · exact difT_all t _ _ _ st.c3.1 (by omega) hl
              · split
                · exact difT_all t _ _ _ st.c4.1 (by omega) (Nat.le_trans st.l2 hl)
                · exact ih fun y hy => hq y (by simp [hy])
      exact key _ fun x hx => hx
    · rw [difT_one h2]; trivial
theorem differT_all (hn : n ≤ 256) : (differT n).All fun q => isSet n q = true := ⟨isSet_nil _, fun v => by
  show Tr.All _ (if _ then _ else _)
  split
  · refine ⟨upTo_set n, fun v => ?_⟩
    show Tr.All _ (if _ then _ else _)
    split
    · exact difT_all _ _ _ _ (dif_first n) (by omega) (by rw [upTo_length]; exact hn)
    · trivial
  · trivial⟩
/-- A set that passes within one that fails; their difference is one element, or none of it can be moved. -/
structure IsoOk (n : Nat) (o : List Int → Int) (r : Res) : Prop where
  er : r.1 = 0
  inv : DInv n r.2.2 r.2.1
  pass : o r.2.2 = 1
  fails : o r.2.1 = 2
  one : (minus r.2.1 r.2.2).length = 1 ∨ ∀ x ∈ minus r.2.1 r.2.2, o (plus r.2.2 [x]) = 3 ∧ o (minus r.2.1 [x]) = 3
theorem chunk_single {xs : List Int} {k : Nat} {y : Int} (h : xs[k]? = some y) : chunkOf xs xs.length k = [y] := by
  obtain ⟨hk, he⟩ := List.getElem?_eq_some_iff.1 h
  have hp : 0 < xs.length := by omega
  unfold chunkOf
  rw [Nat.mul_div_cancel _ hp, Nat.mul_div_cancel _ hp, List.drop_eq_getElem_cons hk, he, show k + 1 - k = 1 by omega]
  rfl
theorem cutN_all {m g : Nat} (hg : 2 ≤ g) (h : m ≤ g) : cutN m g = m := by unfold cutN; omega
theorem told_three {v : Int} (h : told v = v) (h1 : v ≠ 1) (h2 : v ≠ 2) : v = 3 := by
  unfold told at h
  rw [if_neg (by omega)] at h
  exact h.symm
theorem difT_ok {o : List Int → Int} (ho : ∀ q, told (o q) = o q) (t : Nat) : ∀ (p f : List Int) (g : Nat), DInv n p f → 2 ≤ g → f.length ≤ 256 → difM p f g < t → Hid (o p = 1) → Hid (o f = 2) → IsoOk n o ((difT t p f g).res o) := by
  induction t with
  | zero => intro p f g _ _ _ h; exact absurd h (Nat.not_lt_zero _)
  | succ t ih =>
    intro p f g h hg hl hm hp hf
    obtain ⟨e1, e2⟩ := h.len
    have hne : 0 < (minus f p).length := by
      rcases Nat.eq_zero_or_pos (minus f p).length with h0 | h0
      · exfalso
        have : p = f := sorted_ext (isSet_iff.1 h.ps).2 (isSet_iff.1 h.fs).2 fun y => ⟨h.sub y, fun hy => by
          by_cases hyp : y ∈ p
          · exact hyp
          · exact absurd (List.length_pos_of_mem (mem_minus.2 ⟨hy, hyp⟩)) (by omega)⟩
        have a := hp.out
        have b := hf.out
        rw [this] at a
        omega
      · exact h0
    by_cases h2 : p.length + 2 ≤ f.length
    · rw [difT_two h2]
      have key : ∀ qs : List (List Int), (∀ x ∈ qs, x ∈ chunksOf (minus f p) g) → ((∀ x, x ∈ chunksOf (minus f p) g → x ∉ qs → o (plus p x) = 3 ∧ o (minus f x) = 3)) →
          IsoOk n o ((difScan (difT t) (if (minus f p).length ≤ g then .ret (0, f, p) else difT t p f (min (2 * g) (minus f p).length)) p f g qs).res o) := by
        intro qs
        induction qs with
        | nil =>
          intro _ hall
          show IsoOk n o (Tr.res o (if _ then _ else _))
          by_cases hge : (minus f p).length ≤ g
          · rw [if_pos hge]
            refine ⟨rfl, h, hp.out, hf.out, .inr fun y hy => ?_⟩
            have hy : y ∈ minus f p := hy
            obtain ⟨k, hk, hky⟩ := List.mem_iff_getElem.1 hy
            have hc := cutN_all hg hge
            have h3 := dif_chunk (g := g) (d := minus f p) (k := k) (by rw [hc]; exact hk)
            rw [hc, chunk_single (by rw [List.getElem?_eq_getElem hk, hky])] at h3
            exact hall [y] (List.mem_of_getElem? h3) (by simp)
          · rw [if_neg hge]
            obtain ⟨x1, x2, _⟩ := dif_finer (t := t) h hg (Nat.lt_of_not_le hge) hl
            exact ih _ _ _ h x2 hl (Nat.lt_of_lt_of_le x1 (Nat.le_of_lt_succ hm)) hp hf
        | cons x xs ihq =>
          intro hq hall
          obtain ⟨k, hk, hx⟩ := mem_chunks (hq x (by simp))
          have st := dif_step h hg h2 hl rfl hk hx
          show IsoOk n o (Tr.res o (if _ then _ else _))
          have lt : ∀ {a}, a < difM p f g → a < t := fun ha => Nat.lt_of_lt_of_le ha (Nat.le_of_lt_succ hm)
          by_cases a2 : o (plus p x) = 2
          · rw [if_pos a2]; exact ih _ _ _ st.c1.1 (by omega) (Nat.le_trans st.l1 hl) (lt st.c1.2) hp a2
          · rw [if_neg a2]
            by_cases b1 : o (minus f x) = 1
            · rw [if_pos b1]; exact ih _ _ _ st.c2.1 (by omega) hl (lt st.c2.2) b1 hf
            · rw [if_neg b1]
              by_cases a1 : o (plus p x) = 1
              · rw [if_pos a1]; exact ih _ _ _ st.c3.1 (by omega) hl (lt st.c3.2) a1 hf
              · rw [if_neg a1]
                by_cases b2 : o (minus f x) = 2
                · rw [if_pos b2]; exact ih _ _ _ st.c4.1 (by omega) (Nat.le_trans st.l2 hl) (lt st.c4.2) hp b2
                · rw [if_neg b2]
                  refine ihq (fun y hy => hq y (by simp [hy])) fun y hy hny => ?_
                  by_cases he : y = x
                  · subst he
                    exact ⟨told_three (ho _) a1 a2, told_three (ho _) b1 b2⟩
                  · exact hall y hy (by simp [he, hny])
      exact key _ (fun x hx => hx) fun x hx hn => absurd hx hn
    · rw [difT_one h2]
      exact ⟨rfl, h, hp.out, hf.out, .inl (by show (minus f p).length = 1; omega)⟩
theorem differT_ok (hn : n ≤ 256) {o : List Int → Int} (ho : ∀ q, told (o q) = o q) : if o [] = 1 ∧ o (upTo n) = 2 then IsoOk n o ((differT n).res o) else (differT n).res o = (7, [], []) := by
  unfold differT
  rw [Tr.res]
  by_cases h1 : o [] = 1
  · rw [if_pos h1, Tr.res]
    by_cases h2 : o (upTo n) = 2
    · rw [if_pos h2, if_pos ⟨h1, h2⟩]
      exact difT_ok ho _ _ _ _ (dif_first n) (Nat.le_refl 2) (by rw [upTo_length]; exact hn) (Nat.lt_succ_self _) h1 h2
    · rw [if_neg h2, if_neg fun h => h2 h.2]; rfl
  · rw [if_neg h1, if_neg fun h => h1 h.1]; rfl
end

section
variable {α : Type} {f : List Int → Tr (List Int) Int α} {d : Tr (List Int) Int α}
theorem scan_res (o : List Int → Int) : ∀ qs : List (List Int), (∃ q ∈ qs, o q = 2 ∧ (scanT f d qs).res o = (f q).res o) ∨ ((∀ q ∈ qs, o q ≠ 2) ∧ (scanT f d qs).res o = d.res o)
  | [] => .inr ⟨by simp, rfl⟩
  | q :: qs => by
    by_cases h : o q = 2
    · refine .inl ⟨q, by simp, h, ?_⟩
      show Tr.res o (if _ then _ else _) = _
      rw [if_pos h]
    · have e : (scanT f d (q :: qs)).res o = (scanT f d qs).res o := by
        show Tr.res o (if _ then _ else _) = _
        rw [if_neg h]
      rw [e]
      rcases scan_res o qs with ⟨q', h1, h2, h3⟩ | ⟨h1, h2⟩
      · exact .inl ⟨q', by simp [h1], h2, h3⟩
      · refine .inr ⟨fun q' hq' => ?_, h2⟩
        rcases List.mem_cons.1 hq' with rfl | hq'
        · exact h
        · exact h1 q' hq'
end
section
variable {n : Nat}
/-- A set that fails, and that without any one of its elements does not. -/
structure MinOk (n : Nat) (o : List Int → Int) (c : List Int) : Prop where
  set : isSet n c = true
  fails : o c = 2
  min : ∀ x ∈ c, o (minus c [x]) ≠ 2
theorem minus_self (x : Int) : minus [x] [x] = [] := by simp [minus]
theorem minFin_ok {o : List Int → Int} {c : List Int} (hs : isSet n c = true) (hf : o c = 2) (h : c.length ≠ 1 → ∀ x ∈ c, o (minus c [x]) ≠ 2) : MinOk n o ((minFin c).res o) := by
  unfold minFin
  by_cases h1 : c.length = 1
  · rw [if_pos h1]
    show MinOk n o (if o [] = 2 then [] else c)
    by_cases h2 : o [] = 2
    · rw [if_pos h2]
      exact ⟨isSet_nil _, h2, by simp⟩
    · rw [if_neg h2]
      refine ⟨hs, hf, fun x hx => ?_⟩
      match c, h1, hx with
      | [y], _, hx =>
        simp at hx
        subst hx
        rw [minus_self]
        exact h2
  · rw [if_neg h1]
    exact ⟨hs, hf, h h1⟩
theorem minT_ok (o : List Int → Int) (t : Nat) : ∀ (c : List Int) (g : Nat), isSet n c = true → 2 ≤ g → c.length ≤ 256 → minM c g < t → Hid (o c = 2) → MinOk n o ((minT t c g).res o) := by
  induction t with
  | zero => intro c g _ _ _ h; exact absurd h (Nat.not_lt_zero _)
  | succ t ih =>
    intro c g hs hg hl hm hf
    by_cases h2 : 2 ≤ c.length
    · rw [minT_two h2]
      rcases scan_res o (chunksOf c g) (f := fun x => minT t x 2) (d := scanT (fun x => minT t x (max (g - 1) 2)) (if c.length ≤ g then minFin c else minT t c (min (2 * g) c.length)) ((chunksOf c g).map (minus c))) with ⟨q, hq, hq2, e⟩ | ⟨ha, e⟩
      · rw [e]
        obtain ⟨k, hk, rfl⟩ := mem_chunks hq
        obtain ⟨x1, x2, x3⟩ := min_chunk (n := n) hs hg h2 hl hk
        exact ih _ _ x1 (by omega) x3 (Nat.lt_of_lt_of_le x2 (Nat.le_of_lt_succ hm)) hq2
      · rw [e]
        rcases scan_res o ((chunksOf c g).map (minus c)) (f := fun x => minT t x (max (g - 1) 2)) (d := if c.length ≤ g then minFin c else minT t c (min (2 * g) c.length)) with ⟨q, hq, hq2, e⟩ | ⟨hb, e⟩
        · rw [e]
          obtain ⟨x, hx, rfl⟩ := List.mem_map.1 hq
          obtain ⟨k, hk, rfl⟩ := mem_chunks hx
          obtain ⟨x1, x2, x3⟩ := min_rest (n := n) hs hg h2 hl hk
          exact ih _ _ x1 (by omega) x3 (Nat.lt_of_lt_of_le x2 (Nat.le_of_lt_succ hm)) hq2
        · rw [e]
          by_cases hge : c.length ≤ g
          · rw [if_pos hge]
            refine minFin_ok hs hf.out fun _ y hy => ?_
            obtain ⟨k, hk, hky⟩ := List.mem_iff_getElem.1 hy
            have hc := cutN_all hg hge
            have h3 := dif_chunk (g := g) (d := c) (k := k) (by rw [hc]; exact hk)
            rw [hc, chunk_single (by rw [List.getElem?_eq_getElem hk, hky])] at h3
            exact hb _ (List.mem_map.2 ⟨[y], List.mem_of_getElem? h3, rfl⟩)
          · rw [if_neg hge]
            obtain ⟨x1, x2⟩ := min_finer (c := c) hg (Nat.lt_of_not_le hge)
            exact ih _ _ hs x2 hl (Nat.lt_of_lt_of_le x1 (Nat.le_of_lt_succ hm)) hf
    · rw [minT_le1 h2]
      refine minFin_ok hs hf.out fun h1 y hy => ?_
      have := List.length_pos_of_mem hy
      omega
theorem listT_ok (hn : n ≤ 256) (o : List Int → Int) : if o (upTo n) = 2 then SetOk n o ((listT n).res o) else (listT n).res o = (7, [], []) := by
  unfold listT
  rw [Tr.res]
  by_cases hv : o (upTo n) = 2
  · simp only [if_pos hv]
    rw [Tr.res_map]
    have := minT_ok (n := n) o _ _ _ (upTo_set n) (Nat.le_refl 2) (by rw [upTo_length]; exact hn) (Nat.lt_succ_self _) hv
    exact ⟨rfl, rfl, this.set, this.fails, this.min⟩
  · simp only [if_neg hv]; rfl
theorem listT_all (n : Nat) : (listT n).All fun q => isSet n q = true := ⟨upTo_set n, fun v => by
  show Tr.All _ (if _ then _ else _)
  split
  · exact Tr.all_map (minT_all _ _ _ (upTo_set n))
  · trivial⟩
end
end Go.Proofs.YtjpbmbonccenfaaDoor

/- minimal: what holds between its steps; the closure that asks. -/
namespace Go.Proofs.YtjpbmbonccenfaaDoor
open Go Go.RowKit
set_option linter.unusedVariables false

/-- The closure that List hands to minimal: it asks. -/
theorem lfail_got (sb s km : Nat) (ans : List Int) (used : Nat) (kn : Kn) (A : Option Addr) (ca : Nat) (q : List Int) (w : World) (hb : Blk w sb 91 #[.pointer (some ⟨s, 0, none⟩)]) (h : SK w s km ans used kn) (ha : Rd w (.int .i64) A ca q) (hlen : q.length ≤ 1000000) (hin : I64 q) (htab : Tab w)
    {v : Int} {u : Nat} {kn' : Kn} (hv : askV ans used kn q = some (v, u, kn')) :
    Calls Tryd.prog 75 #[.slice A q.length ca, .pointer (some ⟨sb, 0, none⟩)] w (FailsGot w s km ans (v == 2) u kn') := by
  have HV := Lib.hid hv
  have e0 := hb.cell 0 rfl
  clear hv
  go_enter Tryd.func75, Tryd.ntmps75
  go_wp2_with fail
  refine (fails_got s km ans used kn A ca q w h ha hlen hin htab HV.out).mono ?_
  rintro e w1 ⟨rfl, hf1, hs1⟩
  go_wp2
  go_ret
  exact ⟨rfl, hf1, hs1⟩
theorem lfail_ask (sb s km : Nat) (ans : List Int) (used : Nat) (kn : Kn) (A : Option Addr) (ca : Nat) (q : List Int) (w : World) (hb : Blk w sb 91 #[.pointer (some ⟨s, 0, none⟩)]) (h : SK w s km ans used kn) (ha : Rd w (.int .i64) A ca q) (hlen : q.length ≤ 1000000) (hin : I64 q) (htab : Tab w)
    (hv : askV ans used kn q = none) :
    Calls Tryd.prog 75 #[.slice A q.length ca, .pointer (some ⟨sb, 0, none⟩)] w (Asks w q) := by
  have HV := Lib.hid hv
  have e0 := hb.cell 0 rfl
  clear hv
  go_enter Tryd.func75, Tryd.ntmps75
  go_wp2_with fail
  refine (fails_ask s km ans used kn A ca q w h ha hlen hin htab HV.out).mono ?_
  rintro e w1 ⟨A1, c1, rfl, hr1, hf1, hn1⟩
  go_wp2
  exact ⟨rfl, A1, c1, rfl, hr1, hf1, hn1⟩

/-- Between two steps of minimal, entered in w; w0: the world in which the tables were seen. -/
structure MinS (w0 w : World) (s km sb B : Nat) (ans : List Int) (ms : List Nat) (A : Option Addr) (cc : Nat) (c : List Int) (g u : Nat) (kn : Kn) (W : World) : Prop where
  fr0 : Fr [] w0 W
  fr : Fr [s, km] w W
  sk : SK W s km ans u kn
  cb : Blk W w.heap.size 22 #[.slice A c.length cc]
  rd : Rd W (.int .i64) A cc c
  at_ : 0 < c.length → ∀ a, A = some a → B ≤ a.block ∧ a.block ≠ w.heap.size + 1 + 1
  fb : Blk W (w.heap.size + 1) 99 #[.func (.func 75) #[] #[.pointer (some ⟨sb, 0, none⟩)]]
  gb : Blk W (w.heap.size + 1 + 1) 3 #[.int .i64 g]
  sbb : Blk W sb 91 #[.pointer (some ⟨s, 0, none⟩)]
  marks : ∀ D ∈ ms, w.heap.size < D ∧ W.heap[D]? = some (.deferred (some []))
/-- How the blocks lie. -/
structure MinL (w0 w : World) (s km sb B : Nat) : Prop where
  h0 : w0.heap.size ≤ km
  h1 : km < s
  h2 : s < B
  h3 : B ≤ sb
  h4 : sb < w.heap.size

section
variable {w0 w W W' : World} {s km sb B cc g u u' : Nat} {ans : List Int} {ms : List Nat} {A : Option Addr} {c : List Int} {kn kn' : Kn}
theorem MinS.same {S : List Nat} (L : MinL w0 w s km sb B) (h : MinS w0 w s km sb B ans ms A cc c g u kn W) (hf : Fr S W W') (hw0 : ∀ x ∈ S, w.heap.size ≤ x) (hc : w.heap.size ∉ S) (hfb : w.heap.size + 1 ∉ S) (hg : w.heap.size + 1 + 1 ∉ S)
    (hA : 0 < c.length → ∀ a, A = some a → a.block ∉ S) (hm : ∀ D ∈ ms, D ∉ S) : MinS w0 w s km sb B ans ms A cc c g u kn W' := by
  obtain ⟨l0, l1, l2, l3, l4⟩ := L
  have hz := h.fr.size
  have hz0 := h.fr0.size
  exact ⟨h.fr0.trans2 hf fun x hx => by have := hw0 x hx; right; omega, h.fr.trans2 hf fun x hx => .inr (hw0 x hx), h.sk.fr hf (fun hx => by have := hw0 _ hx; omega) (fun hx => by have := hw0 _ hx; omega) (fun x hx => by have := hw0 x hx; omega),
    h.cb.fr hf hc, h.rd.fr hf hA, h.at_, h.fb.fr hf hfb, h.gb.fr hf hg, h.sbb.fr hf (fun hx => by have := hw0 _ hx; omega), fun D hD => ⟨(h.marks D hD).1, hf.heap (h.marks D hD).2 (hm D hD)⟩⟩
theorem MinS.fr_ (L : MinL w0 w s km sb B) (h : MinS w0 w s km sb B ans ms A cc c g u kn W) (hf : Fr [] W W') : MinS w0 w s km sb B ans ms A cc c g u kn W' :=
  h.same L hf (by simp) (by simp) (by simp) (by simp) (by simp) (by simp)
theorem MinS.nc {D : Nat} (L : MinL w0 w s km sb B) (hD : w.heap.size ≤ D) (hms : ∀ D' ∈ ms, D' < D) (h : MinS w0 w s km sb B ans ms A cc c g u kn W) (hn : Nc W D) (hf : Fr [D, D + 1] W W') : MinS w0 w s km sb B ans ms A cc c g u kn W' :=
  h.same L hf (by simp; omega) (hn.blk h.cb) (hn.blk h.fb) (hn.blk h.gb) (hn.rd h.rd) (fun D' hD' => by have := hms D' hD'; simp; omega)
theorem MinS.tab (ht : Tab w0) (h : MinS w0 w s km sb B ans ms A cc c g u kn W) : Tab W := ht.fr h.fr0
/-- A question has been answered. -/
theorem MinS.asked (L : MinL w0 w s km sb B) (h : MinS w0 w s km sb B ans ms A cc c g u kn W) (hf : Fr [s, km] W W') (hsk : SK W' s km ans u' kn') : MinS w0 w s km sb B ans ms A cc c g u' kn' W' := by
  obtain ⟨l0, l1, l2, l3, l4⟩ := L
  refine ⟨h.fr0.trans2 hf ?_, h.fr.trans hf, hsk, h.cb.fr hf ?_, h.rd.fr hf ?_, h.at_, h.fb.fr hf ?_, h.gb.fr hf ?_, h.sbb.fr hf ?_, fun D hD => ⟨(h.marks D hD).1, hf.heap (h.marks D hD).2 ?_⟩⟩
  · simp; omega
  · simp; omega
  · intro h0 a ha
    have := (h.at_ h0 a ha).1
    simp; omega
  · simp; omega
  · simp; omega
  · simp; omega
  · have := (h.marks D hD).1
    simp; omega
theorem notI64s {A : Option Addr} {n c : Nat} (i : Nat) (u : Value) (h : (#[Value.slice A n c] : Array Value)[i]? = some u) (x : Int) : u ≠ .int .i64 x := by
  match i, h with
  | 0, h => simp at h; subst h; simp
/-- The set and the granularity are written. -/
theorem MinS.put {A2 : Option Addr} {c2 g2 : Nat} {x : List Int} (L : MinL w0 w s km sb B) (h : MinS w0 w s km sb B ans ms A cc c g u kn W) (hr : Rd W (.int .i64) A2 c2 x) (ha : 0 < x.length → ∀ a, A2 = some a → B ≤ a.block ∧ a.block ≠ w.heap.size + 1 + 1) :
    MinS w0 w s km sb B ans ms A2 c2 x g2 u kn ((W.setCell ⟨w.heap.size, 0, none⟩ (.slice A2 x.length c2)).setCell ⟨w.heap.size + 1 + 1, 0, none⟩ (.int .i64 g2)) := by
  obtain ⟨l0, l1, l2, l3, l4⟩ := L
  have hz := h.fr.size
  have hz0 := h.fr0.size
  have hf : Fr [w.heap.size, w.heap.size + 1 + 1] W ((W.setCell ⟨w.heap.size, 0, none⟩ (.slice A2 x.length c2)).setCell ⟨w.heap.size + 1 + 1, 0, none⟩ (.int .i64 g2)) :=
    ((Fr.refl _ W).setCell (.inl (by simp)) _).setCell (.inl (by simp)) _
  have hgb2 : Blk (W.setCell ⟨w.heap.size, 0, none⟩ (.slice A2 x.length c2)) (w.heap.size + 1 + 1) 3 #[.int .i64 g] := h.gb.far (p := ⟨w.heap.size, 0, none⟩) (by show w.heap.size + 1 + 1 ≠ w.heap.size; omega) _
  have hcb2 : Blk (W.setCell ⟨w.heap.size, 0, none⟩ (.slice A2 x.length c2)) w.heap.size 22 #[.slice A2 x.length c2] := by simpa using h.cb.set_ 0 _
  refine ⟨h.fr0.trans2 hf (by simp; omega), h.fr.trans2 hf (by simp; omega), h.sk.fr hf (by simp; omega) (by simp; omega) (by simp; omega), hcb2.far (p := ⟨w.heap.size + 1 + 1, 0, none⟩) (by show w.heap.size ≠ w.heap.size + 1 + 1; omega) _, hr.fr hf ?_, ha, h.fb.fr hf (by simp),
    by simpa using hgb2.set_ 0 _, h.sbb.fr hf (by simp; omega), fun D hD => ⟨(h.marks D hD).1, hf.heap (h.marks D hD).2 ?_⟩⟩
  · intro h0 a hA hm
    have h1 := (ha h0 a hA).2
    have h2 := hr.apart h.cb notI64s h0 a hA
    simp at hm
    omega
  · intro hm
    simp at hm
    have h1 := (h.marks D hD).2
    rcases hm with rfl | rfl
    · rw [show W.heap[w.heap.size]? = _ from h.cb] at h1; cases h1
    · rw [show W.heap[w.heap.size + 1 + 1]? = _ from h.gb] at h1; cases h1
/-- The set is written. -/
theorem MinS.putC {A2 : Option Addr} {c2 : Nat} {x : List Int} (L : MinL w0 w s km sb B) (h : MinS w0 w s km sb B ans ms A cc c g u kn W) (hr : Rd W (.int .i64) A2 c2 x) (ha : 0 < x.length → ∀ a, A2 = some a → B ≤ a.block ∧ a.block ≠ w.heap.size + 1 + 1) :
    MinS w0 w s km sb B ans ms A2 c2 x g u kn (W.setCell ⟨w.heap.size, 0, none⟩ (.slice A2 x.length c2)) := by
  obtain ⟨l0, l1, l2, l3, l4⟩ := L
  have hz := h.fr.size
  have hz0 := h.fr0.size
  have hf : Fr [w.heap.size] W (W.setCell ⟨w.heap.size, 0, none⟩ (.slice A2 x.length c2)) := (Fr.refl _ W).setCell (.inl (by simp)) _
  have hcb2 : Blk (W.setCell ⟨w.heap.size, 0, none⟩ (.slice A2 x.length c2)) w.heap.size 22 #[.slice A2 x.length c2] := by simpa using h.cb.set_ 0 _
  refine ⟨h.fr0.trans2 hf (by simp; omega), h.fr.trans2 hf (by simp), h.sk.fr hf (by simp; omega) (by simp; omega) (by simp; omega), hcb2, hr.fr hf ?_, ha, h.fb.fr hf (by simp),
    h.gb.fr hf (by simp only [List.mem_singleton]; omega), h.sbb.fr hf (by simp; omega), fun D hD => ⟨(h.marks D hD).1, hf.heap (h.marks D hD).2 ?_⟩⟩
  · intro h0 a hA hm
    have h2 := hr.apart h.cb notI64s h0 a hA
    simp at hm
    omega
  · intro hm
    have := (h.marks D hD).1
    simp at hm
    omega
theorem MinS.putG {g2 : Nat} (L : MinL w0 w s km sb B) (h : MinS w0 w s km sb B ans ms A cc c g u kn W) : MinS w0 w s km sb B ans ms A cc c g2 u kn (W.setCell ⟨w.heap.size + 1 + 1, 0, none⟩ (.int .i64 g2)) := by
  obtain ⟨l0, l1, l2, l3, l4⟩ := L
  have hz := h.fr.size
  have hz0 := h.fr0.size
  have hf : Fr [w.heap.size + 1 + 1] W (W.setCell ⟨w.heap.size + 1 + 1, 0, none⟩ (.int .i64 g2)) := (Fr.refl _ W).setCell (.inl (by simp)) _
  refine ⟨h.fr0.trans2 hf (by simp; omega), h.fr.trans2 hf (by simp; omega), h.sk.fr hf (by simp; omega) (by simp; omega) (by simp; omega), h.cb.fr hf (by simp only [List.mem_singleton]; omega), h.rd.fr hf ?_, h.at_, h.fb.fr hf (by simp only [List.mem_singleton]; omega),
    by simpa using h.gb.set_ 0 _, h.sbb.fr hf (by simp; omega), fun D hD => ⟨(h.marks D hD).1, hf.heap (h.marks D hD).2 ?_⟩⟩
  · intro h0 a hA hm
    exact (h.at_ h0 a hA).2 (by simpa using hm)
  · intro hm
    obtain rfl : D = w.heap.size + 1 + 1 := by simpa using hm
    have h1 := (h.marks _ hD).2
    rw [show W.heap[w.heap.size + 1 + 1]? = _ from h.gb] at h1; cases h1
end
end Go.Proofs.YtjpbmbonccenfaaDoor

/- minimal: the walk. -/
namespace Go.Proofs.YtjpbmbonccenfaaDoor
open Go Go.RowKit
set_option linter.unusedVariables false
attribute [local go_sem] Oper.semAt_some

/-- The slots of minimal. -/
def MinAct (w : World) (f : Nat → Value) (ms : List Nat) : Act := { tmps := #[f 0, f 1, .pointer (some ⟨w.heap.size, 0, none⟩), .pointer (some ⟨w.heap.size + 1, 0, none⟩), f 4, .pointer (some ⟨w.heap.size + 1 + 1, 0, none⟩), f 6, f 7, f 8, f 9, f 10, f 11, f 12, f 13, f 14, f 15, f 16, f 17, f 18, f 19, f 20, f 21, f 22, f 23, f 24, f 25, f 26, f 27, f 28, f 29, f 30, f 31, f 32, f 33, f 34, f 35, f 36, f 37, f 38, f 39, f 40, f 41, f 42, f 43, f 44, f 45, f 46, f 47, f 48, f 49, f 50, f 51], defers := ms.map markOf }
theorem minAct_of {w : World} {ms : List Nat} {x0 x1 x4 x6 x7 x8 x9 x10 x11 x12 x13 x14 x15 x16 x17 x18 x19 x20 x21 x22 x23 x24 x25 x26 x27 x28 x29 x30 x31 x32 x33 x34 x35 x36 x37 x38 x39 x40 x41 x42 x43 x44 x45 x46 x47 x48 x49 x50 x51 : Value} : ∃ f, ({ tmps := #[x0, x1, .pointer (some ⟨w.heap.size, 0, none⟩), .pointer (some ⟨w.heap.size + 1, 0, none⟩), x4, .pointer (some ⟨w.heap.size + 1 + 1, 0, none⟩), x6, x7, x8, x9, x10, x11, x12, x13, x14, x15, x16, x17, x18, x19, x20, x21, x22, x23, x24, x25, x26, x27, x28, x29, x30, x31, x32, x33, x34, x35, x36, x37, x38, x39, x40, x41, x42, x43, x44, x45, x46, x47, x48, x49, x50, x51], defers := ms.map markOf } : Act) = MinAct w f ms :=
  ⟨fun i => (#[x0, x1, .pointer (some ⟨w.heap.size, 0, none⟩), .pointer (some ⟨w.heap.size + 1, 0, none⟩), x4, .pointer (some ⟨w.heap.size + 1 + 1, 0, none⟩), x6, x7, x8, x9, x10, x11, x12, x13, x14, x15, x16, x17, x18, x19, x20, x21, x22, x23, x24, x25, x26, x27, x28, x29, x30, x31, x32, x33, x34, x35, x36, x37, x38, x39, x40, x41, x42, x43, x44, x45, x46, x47, x48, x49, x50, x51] : Array Value)[i]?.getD undef, rfl⟩

def MinPost (w : World) (s km B : Nat) (ans : List Int) (r : List Int ⊕ (List Int × (Nat × Kn))) (e : Ending) (w' : World) : Prop :=
  match r with
  | .inl q => ∃ A c, e = .panicked [question (.slice A q.length c)] ∧ Rd w' (.int .i64) A c q ∧ Fr [s, km] w w' ∧ Nw B A
  | .inr (c, (u, kn)) => ∃ A cc, e = .returned (.slice A c.length cc) ∧ Rd w' (.int .i64) A cc c ∧ Fr [s, km] w w' ∧ SK w' s km ans u kn ∧ (0 < c.length → ∀ a, A = some a → B ≤ a.block)

/-- A question that is not answered. -/
structure MinQ (w : World) (s km B : Nat) (full : List Int ⊕ (List Int × (Nat × Kn))) (ms : List Nat) (ch : List PanicEntry) (W : World) : Prop where
  ex : ∃ q A cq, ch = [question (.slice A q.length cq)] ∧ Hid (full = .inl q) ∧ Rd W (.int .i64) A cq q ∧ Nw B A
  fr : Fr [s, km] w W
  marks : ∀ D ∈ ms, w.heap.size < D ∧ W.heap[D]? = some (.deferred (some []))
/-- Between two rounds. -/
def MinO (w0 w : World) (s km sb B n : Nat) (ans : List Int) (full : List Int ⊕ (List Int × (Nat × Kn))) (ms : List Nat) (t : Nat) (W : World) : Prop :=
  ∃ A cc c g u kn, MinS w0 w s km sb B ans ms A cc c g u kn W ∧ (2 ≤ g ∧ g ≤ 256) ∧ c.length ≤ 256 ∧ minM c g < t ∧ Hid (isSet n c = true) ∧ Hid (full = (minT t c g).go (askS ans) (u, kn))
/-- Behind the loop. -/
def MinMid (w0 w : World) (s km sb B n : Nat) (ans : List Int) (full : List Int ⊕ (List Int × (Nat × Kn))) : Exit → Act → World → Prop
  | .normal, a, W => ∃ f ms A cc c g u kn, a = MinAct w f ms ∧ ms.Nodup ∧ MinS w0 w s km sb B ans ms A cc c g u kn W ∧ c.length ≤ 256 ∧ Hid (full = (minFin c).go (askS ans) (u, kn))
  | .panic ch, a, W => ∃ ms, a.defers = ms.map markOf ∧ ms.Nodup ∧ MinQ w s km B full ms ch W
  | _, _, _ => False

section
variable {w0 w W W' : World} {s km sb B cc g u u' n : Nat} {ans : List Int} {ms : List Nat} {A : Option Addr} {c : List Int} {kn kn' : Kn} {full : List Int ⊕ (List Int × (Nat × Kn))} {ch : List PanicEntry}
theorem rd_nd {α : Type} {enc : α → Value} {xs : List α} (hm : ∀ D ∈ ms, w.heap.size < D ∧ W.heap[D]? = some (.deferred (some []))) (hr : Rd W enc A cc xs) : 0 < xs.length → ∀ a, A = some a → a.block ∉ ms := by
  intro h0 a ha hD
  obtain ⟨b, off, hA, hc⟩ := hr.at0 h0
  rw [hA] at ha
  injection ha with ha
  subst ha
  have h1 := hc 0 xs[0] (by simp)
  have h2 := (hm _ hD).2
  simp [World.cell?] at h1
  simp at h2
  simp [h2] at h1
theorem MinQ.leave (h : MinQ w s km B full ms ch W) (hf : Fr ms W W') : MinPost w s km B ans full (.panicked ch) W' := by
  obtain ⟨q, A, cq, rfl, hfu, hr, hn⟩ := h.ex
  rw [hfu.out]
  exact ⟨A, cq, rfl, hr.fr hf (rd_nd h.marks hr), h.fr.trans2 hf fun x hx => .inr (Nat.le_of_lt (h.marks x hx).1), hn⟩
theorem MinS.leave {A2 : Option Addr} {c2 : Nat} {x : List Int} (L : MinL w0 w s km sb B) (h : MinS w0 w s km sb B ans ms A cc c g u kn W) (hr : Rd W (.int .i64) A2 c2 x) (hB : 0 < x.length → ∀ a, A2 = some a → B ≤ a.block) (hfu : full = .inr (x, (u, kn))) (hf : Fr ms W W') :
    MinPost w s km B ans full (.returned (.slice A2 x.length c2)) W' := by
  obtain ⟨l0, l1, l2, l3, l4⟩ := L
  rw [hfu]
  exact ⟨A2, c2, rfl, hr.fr hf (rd_nd h.marks hr), h.fr.trans2 hf fun x hx => .inr (Nat.le_of_lt (h.marks x hx).1),
    h.sk.fr hf (fun hm => by have := (h.marks _ hm).1; omega) (fun hm => by have := (h.marks _ hm).1; omega) (fun x hx => by have := (h.marks x hx).1; omega), hB⟩
/-- A question is left. -/
theorem MinS.quit {A2 : Option Addr} {c2 : Nat} {q : List Int} (L : MinL w0 w s km sb B) (h : MinS w0 w s km sb B ans ms A cc c g u kn W) (hf : Fr [] W W') (hr : Rd W' (.int .i64) A2 c2 q) (hn : Nw W.heap.size A2) (hfu : Hid (full = .inl q)) :
    MinQ w s km B full ms [question (.slice A2 q.length c2)] W' := by
  obtain ⟨l0, l1, l2, l3, l4⟩ := L
  have hz := h.fr.size
  exact ⟨⟨q, A2, c2, rfl, hfu, hr, hn.mono (by omega)⟩, h.fr.trans0 hf, fun D hD => ⟨(h.marks D hD).1, hf.heap (h.marks D hD).2 (by simp)⟩⟩
end

/-- Between two rounds of a scan. -/
def MinI (w0 w : World) (s km sb B : Nat) (ans : List Int) (full : List Int ⊕ (List Int × (Nat × Kn))) (ms : List Nat) (A : Option Addr) (cc : Nat) (c : List Int) (g D0 N : Nat) (fT : List Int → Tr (List Int) Int (List Int)) (dT : Tr (List Int) Int (List Int)) (qs : List (List Int)) (k : Nat) (W : World) : Prop :=
  k ≤ N ∧ ∃ u kn, MinS w0 w s km sb B ans ms A cc c g u kn W ∧ Blk W D0 22 #[.slice A c.length cc] ∧ Blk W (D0 + 1) 3 #[.int .i64 N] ∧ Hid (full = (scanT fT dT (qs.drop k)).go (askS ans) (u, kn))
section
variable {w0 w W W' : World} {s km sb B cc g u u' n t D D0 N k : Nat} {ans : List Int} {ms : List Nat} {A : Option Addr} {c : List Int} {kn kn' : Kn} {full : List Int ⊕ (List Int × (Nat × Kn))} {ch : List PanicEntry} {fT : List Int → Tr (List Int) Int (List Int)} {dT : Tr (List Int) Int (List Int)} {qs : List (List Int)}
theorem MinI.fr_ (L : MinL w0 w s km sb B) (h : MinI w0 w s km sb B ans full ms A cc c g D0 N fT dT qs k W) (hf : Fr [] W W') : MinI w0 w s km sb B ans full ms A cc c g D0 N fT dT qs k W' := by
  obtain ⟨h1, u, kn, h2, h3, h4, h5⟩ := h
  exact ⟨h1, u, kn, h2.fr_ L hf, h3.fr hf (by simp), h4.fr hf (by simp), h5⟩
theorem MinI.nc (L : MinL w0 w s km sb B) (hD : w.heap.size ≤ D) (hms : ∀ D' ∈ ms, D' < D) (h : MinI w0 w s km sb B ans full ms A cc c g D0 N fT dT qs k W) (hn : Nc W D) (hf : Fr [D, D + 1] W W') : MinI w0 w s km sb B ans full ms A cc c g D0 N fT dT qs k W' := by
  obtain ⟨h1, u, kn, h2, h3, h4, h5⟩ := h
  exact ⟨h1, u, kn, h2.nc L hD hms hn hf, h3.fr hf (hn.blk h3), h4.fr hf (hn.blk h4), h5⟩
theorem MinO.nc (L : MinL w0 w s km sb B) (hD : w.heap.size ≤ D) (hms : ∀ D' ∈ ms, D' < D) (h : MinO w0 w s km sb B n ans full ms t W) (hn : Nc W D) (hf : Fr [D, D + 1] W W') : MinO w0 w s km sb B n ans full ms t W' := by
  obtain ⟨A, cc, c, g, u, kn, h1, h2⟩ := h
  exact ⟨A, cc, c, g, u, kn, h1.nc L hD hms hn hf, h2⟩
/-- One mark more. -/
theorem MinS.mark (h : MinS w0 w s km sb B ans ms A cc c g u kn W) (hD : w.heap.size < D) (hd : W.heap[D]? = some (.deferred (some []))) : MinS w0 w s km sb B ans (D :: ms) A cc c g u kn W :=
  ⟨h.fr0, h.fr, h.sk, h.cb, h.rd, h.at_, h.fb, h.gb, h.sbb, fun D' hD' => by
    rcases List.mem_cons.1 hD' with rfl | h'
    · exact ⟨hD, hd⟩
    · exact h.marks D' h'⟩
theorem MinO.mark (h : MinO w0 w s km sb B n ans full ms t W) (hD : w.heap.size < D) (hd : W.heap[D]? = some (.deferred (some []))) : MinO w0 w s km sb B n ans full (D :: ms) t W := by
  obtain ⟨A, cc, c, g, u, kn, h1, h2⟩ := h
  exact ⟨A, cc, c, g, u, kn, h1.mark hD hd, h2⟩
theorem MinQ.mark (h : MinQ w s km B full ms ch W) (hD : w.heap.size < D) (hd : W.heap[D]? = some (.deferred (some []))) : MinQ w s km B full (D :: ms) ch W :=
  ⟨h.ex, h.fr, fun D' hD' => by
    rcases List.mem_cons.1 hD' with rfl | h'
    · exact ⟨hD, hd⟩
    · exact h.marks D' h'⟩
theorem MinS.cold (h : MinS w0 w s km sb B ans ms A cc c g u kn W) (hn : Nc W D) : ∀ x ∈ [s, km, w.heap.size, w.heap.size + 1 + 1], x ∉ [D, D + 1] := by
  obtain ⟨A', c', hb, _⟩ := h.sk.srch.ex
  intro x hx
  simp only [List.mem_cons, List.not_mem_nil, or_false] at hx
  rcases hx with rfl | rfl | rfl | rfl
  · exact hn.blk hb
  · exact hn.mapAt h.sk.map
  · exact hn.blk h.cb
  · exact hn.blk h.gb
theorem MinS.clear {S : List Nat} (h : MinS w0 w s km sb B ans ms A cc c g u kn W) (hn : Nc W D) (hf : Fr S W W') (hS : ∀ x ∈ S, x ∈ [s, km, w.heap.size, w.heap.size + 1 + 1]) : Clear D W W' :=
  ⟨S, hf, fun hm => h.cold hn D (hS D hm) (by simp), fun hm => h.cold hn (D + 1) (hS _ hm) (by simp)⟩
theorem MinS.below (h : MinS w0 w s km sb B ans ms A cc c g u kn W) : ∀ D' ∈ ms, D' < W.heap.size := fun D' hD' => (Array.getElem?_eq_some_iff.1 (h.marks D' hD').2).1
end

set_option maxHeartbeats 6400000 in
theorem minimal_any (w0 w : World) (s km sb B n : Nat) (ans : List Int) (u0 : Nat) (kn0 : Kn) (A0 : Option Addr) (cc0 : Nat) (c0 : List Int) (L : MinL w0 w s km sb B) (ht : Tab w0) (hf0 : Fr [] w0 w) (hsk : SK w s km ans u0 kn0)
    (hr : Rd w (.int .i64) A0 cc0 c0) (hA : 0 < c0.length → ∀ a, A0 = some a → B ≤ a.block) (hset : isSet n c0 = true) (hl : c0.length ≤ 256) (hn : n ≤ 256) (hsb : Blk w sb 91 #[.pointer (some ⟨s, 0, none⟩)]) :
    Calls Tryd.prog 74 #[.slice A0 c0.length cc0, .func (.func 75) #[] #[.pointer (some ⟨sb, 0, none⟩)]] w (MinPost w s km B ans ((minT (minM c0 2 + 1) c0 2).go (askS ans) (u0, kn0))) := by
  obtain ⟨full, hful⟩ : ∃ r, (minT (minM c0 2 + 1) c0 2).go (askS ans) (u0, kn0) = r := ⟨_, rfl⟩
  rw [hful]
  obtain ⟨W0, hW0⟩ : ∃ W0, W0 = (((w.alloc (.cells #[.slice A0 c0.length cc0] 22)).alloc (.cells #[.func (.func 75) #[] #[.pointer (some ⟨sb, 0, none⟩)]] 99)).alloc (.cells #[.int .i64 2] 3)) := ⟨_, rfl⟩
  have hI0 : MinO w0 w s km sb B n ans full [] (minM c0 2 + 1) W0 := by
    have hs0 : MinS w0 w s km sb B ans [] A0 cc0 c0 2 u0 kn0 W0 := by
      have hfw : Fr [] w W0 := by rw [hW0]; exact (by repeat (first | exact Fr.refl _ _ | assumption | apply Fr.drewN | apply Fr.drew | apply Fr.alloc | refine Fr.setCell ?_ (by simp) _))
      refine ⟨hf0.trans hfw, hfw.mono (by simp), hsk.fr0 hfw, ?_, hr.fr0 hfw, fun h0 a ha => ⟨hA h0 a ha, ?_⟩, ?_, ?_, hsb.fr hfw (by simp), by simp⟩
      · rw [hW0]; exact ((Blk.new w _ _ _ rfl).alloc _).alloc _
      · have := hr.lt h0 a ha; omega
      · rw [hW0]; exact (Blk.new _ _ _ _ (by simp)).alloc _
      · rw [hW0]; exact Blk.new _ _ _ _ (by simp)
    exact ⟨A0, cc0, c0, 2, u0, kn0, hs0, ⟨Nat.le_refl _, by omega⟩, hl, Nat.lt_succ_self _, hset, hful.symm⟩
  have HW0 := Lib.hid hW0.symm
  clear hW0 hful
  refine calls_of_wpR Tryd.func74 rfl ?_
  simp only [Tryd.ntmps74, List.size_toArray, List.length_cons, List.length_nil, Nat.reduceAdd, Nat.reduceSub, Array.replicate_succ, Array.replicate_zero, List.push_toArray, List.append_toArray, List.nil_append, List.cons_append]
  refine wpR_seq (wpR_of_wp ?_)
  go_wp2
  refine wpR_scope ?_
  refine wpR_seq (wpR_of_wp ?_)
  go_wp2
  rw [HW0.out]
  refine wpR_seq (wpR_of_wp (wp_label ?_))
  refine wpR_seq (wpR_mono (Q := MinMid w0 w s km sb B n ans full) ?loop ?rest)
  case loop =>
    refine wpR_block (wpR_loop (fun t a W => ∃ f ms, a = MinAct w f ms ∧ ms.Nodup ∧ MinO w0 w s km sb B n ans full ms t W) (minM c0 2 + 1) ?_ ?round)
    · obtain ⟨f, hf⟩ := minAct_of (w := w) (ms := [])
      exact ⟨f, [], hf, by simp, hI0⟩
    case round =>
      rintro t a W ⟨f, ms, rfl, hnd, A, cc, c, g, u, kn, hS, ⟨hg, hg2⟩, hcl, hm, hset, hfu⟩
      obtain ⟨s', rfl⟩ : ∃ s', t = s' + 1 := ⟨t - 1, by omega⟩
      refine ⟨s', rfl, fun K hK => ?_⟩
      have e0 := hS.cb.cell 0 rfl
      have e2 := hS.gb.cell 0 rfl
      have hcb := hS.rd.capBound
      by_cases h2 : 2 ≤ c.length
      · have hd : decide ((c.length : Int) ≥ 2) = true := by simp; omega
        rw [minT_two h2] at hfu
        unfold MinAct
        refine wpR_seq (wpR_of_wp ?_)
        go_wp2_with fail
        refine wpR_block ?_
        refine wpR_seq (wpR_seq (wpR_of_wp ?_))
        go_wp2_with fail
        refine (cuts_any A cc c.length g W (by omega)).mono ?_
        rintro e w1 ⟨rfl, rfl⟩
        go_wp2
        refine wpR_block ?_
        have hent : ∀ args w, (callFunc 103 args).run Tryd.prog w = .ok (.enter 103 args) w := fun args w => by simp [go_sem]
        obtain ⟨b0, o0, hAA, _⟩ := hS.rd.at0 (by omega)
        subst hAA
        have hatb := (hS.at_ (by omega) _ rfl)
        have l1 := L.h1
        have l2 := L.h2
        have l3 := L.h3
        have l4 := L.h4
        have hNm := cutN_le c.length (g : Int)
        obtain ⟨qs2, hqs2⟩ : ∃ q, (chunksOf c g).map (minus c) = q := ⟨_, rfl⟩
        obtain ⟨d2, hd2⟩ : ∃ d, (if c.length ≤ g then minFin c else minT s' c (min (2 * g) c.length)) = d := ⟨_, rfl⟩
        rw [hqs2, hd2] at hfu
        obtain ⟨d1, hd1⟩ : ∃ d, scanT (fun x => minT s' x (max (g - 1) 2)) d2 qs2 = d := ⟨_, rfl⟩
        rw [hd1] at hfu
        have HD1 := Lib.hid hd1
        have HD2 := Lib.hid hd2
        have HQR := Lib.hid (fun k hk => rest_get (c := c) (g := g) (k := k) hk)
        have HLR : Hid (qs2.length = cutN c.length (g : Int)) := by show _ = _; rw [← hqs2, List.length_map, chunksOf_length]
        rw [hqs2] at HQR
        clear hqs2 hd1 hd2
        have HQS := Lib.hid (fun k hk => chunk_get (c := c) (g := g) (k := k) hk)
        have HLC := Lib.hid (chunksOf_length c (g : Int))
        generalize chunksOf c (g : Int) = qs at *
        obtain ⟨f1, hf1⟩ : ∃ f, (fun x => minT s' x 2) = f := ⟨_, rfl⟩
        rw [hf1] at hfu
        have HF1 : Hid (∀ x, f1 x = minT s' x 2) := by rw [← hf1]; exact fun _ => rfl
        clear hf1
        have HMC := Lib.hid (fun k hk => min_chunk (n := n) hset.out hg h2 hcl (k := k) hk)
        have HMR := Lib.hid (fun k hk => min_rest (n := n) hset.out hg h2 hcl (k := k) hk)
        have hgv := cuts_gives W.heap.size b0 o0 c.length cc (cutN c.length (g : Int)) (some ⟨b0, o0, none⟩) (fun _ => rfl) (by omega) hNm hS.rd.le hcb
        have hzW := hS.fr.size
        obtain ⟨N, HNN⟩ : ∃ N, Hid (cutN c.length (g : Int) = N) := ⟨_, rfl⟩
        rw [HNN.out] at hgv hNm HQS HQR HMC HMR HLC HLR ⊢
        obtain ⟨W1, hW1⟩ : ∃ W1, W1 = (W.alloc (.cells #[.slice (some ⟨b0, o0, none⟩) c.length cc] 22)).alloc (.cells #[.int .i64 N] 3) := ⟨_, rfl⟩
        have hz1 : W1.heap.size = W.heap.size + 1 + 1 := by rw [hW1]; simp
        have HZ1 := Lib.hid hz1
        have hfW1 : Fr [] W W1 := by rw [hW1]; exact (by repeat (first | exact Fr.refl _ _ | assumption | apply Fr.drewN | apply Fr.drew | apply Fr.alloc | refine Fr.setCell ?_ (by simp) _))
        have hI1 : MinI w0 w s km sb B ans full ms (some ⟨b0, o0, none⟩) cc c g W.heap.size N f1 d1 qs 0 W1 :=
          ⟨Nat.zero_le _, u, kn, hS.fr_ L hfW1, by rw [hW1]; exact (Blk.new W _ _ _ rfl).alloc _, by rw [hW1]; exact Blk.new _ _ _ _ (by simp), hfu⟩
        rw [← hW1]
        clear hW1 hz1
        have hmsb := hS.below
        clear hfu
        refine wpR_rangeFunc 15 rfl rfl hent hgv (MinI w0 w s km sb B ans full ms (some ⟨b0, o0, none⟩) cc c g W.heap.size N f1 d1 qs)
          (fun code W => code = .exit 1 ∧ MinO w0 w s km sb B n ans full ms s' W) (MinQ w s km B full ms) W1.heap.size rfl
          (fun k W W' h hn hf => h.nc L (by have := HZ1.out; omega) (fun D' hD' => by have := hmsb D' hD'; have := HZ1.out; omega) hn hf) (fun code W W' h hn hf => ⟨h.1, h.2.nc L (by have := HZ1.out; omega) (fun D' hD' => by have := hmsb D' hD'; have := HZ1.out; omega) hn hf⟩)
          (fun k W h => by obtain ⟨_, _, _, _, h3, h4, _⟩ := h; exact ⟨h3.cell 0 rfl, h4.cell 0 rfl⟩) (fun W hf _ => hI1.fr_ L hf)
          (fun k => { tmps := #[f 0, f 1, .pointer (some ⟨w.heap.size, 0, none⟩), .pointer (some ⟨w.heap.size + 1, 0, none⟩), f 4, .pointer (some ⟨w.heap.size + 1 + 1, 0, none⟩), chunkV b0 o0 c.length cc N k, f 7, f 8, .slice (some ⟨b0, o0, none⟩) c.length cc, .int .i64 c.length, .bool true, .slice (some ⟨b0, o0, none⟩) c.length cc, .int .i64 g, .func (.func 103) #[] #[.pointer (some ⟨W.heap.size + 1, 0, none⟩), .pointer (some ⟨W.heap.size, 0, none⟩)], chunkV b0 o0 c.length cc N k, f 16, f 17, f 18, f 19, f 20, f 21, f 22, f 23, f 24, f 25, f 26, f 27, f 28, f 29, f 30, f 31, f 32, f 33, f 34, f 35, f 36, f 37, f 38, f 39, f 40, f 41, f 42, f 43, f 44, f 45, f 46, f 47, f 48, f 49, f 50, f 51], defers := [] })
          ?assign ?body ?done ?stop ?pan
        case assign =>
          intro l k W K hK
          gi_wp2
          exact hK
        case body =>
          rintro k W2 hk ⟨_, u, kn, hS, hB1, hB2, hfu⟩ hn
          have hch := Lib.hid (chunkV_eq (b := b0) (o := o0) (c := cc) (N := N) (xs := c) hk)
          have hrc := (hS.rd.chunk hk hNm : Rd W2 (.int .i64) (some ⟨b0, o0 + k * c.length / N, none⟩) (cc - k * c.length / N) (chunkOf c N k))
          have hqk := Lib.hid (HQS.out k hk)
          obtain ⟨hcs, hcm, hcl2⟩ := HMC.out k hk
          rw [hch.out]
          generalize chunkOf c N k = q at *
          have e1 := hS.fb.cell 0 rfl
          have HCS := Lib.hid hcs
          rcases hq : askV ans u kn q with _ | ⟨v, u', kn'⟩
          · have hR : Hid (full = .inl q) := by show _ = _; rw [hfu.out, scan_none hqk.out hq]
            have HQ := Lib.hid hq
            clear hq hfu hcs
            gi_wp2_with fail
            refine ⟨trivial, rfl, (CallsIn.inRound _ (callsIn_wide.2 (lfail_ask sb s km ans u kn _ _ q W2 hS.sbb hS.sk hrc (by omega) (i64_of HCS.out (by omega)) (hS.tab ht) HQ.out))).mono ?_⟩
            rintro e W3 ⟨A3, c3, rfl, hr3, hf3, hn3⟩
            gi_wp2
            exact ⟨rfl, hS.clear hn hf3 (by simp), hS.quit L hf3 hr3 hn3 hR⟩
          · have hR : Hid (full = (if v = 2 then f1 q else scanT f1 d1 (qs.drop (k + 1))).go (askS ans) (u', kn')) := by show _ = _; rw [hfu.out, scan_some hqk.out hq]
            have HQ := Lib.hid hq
            clear hq hfu hcs
            by_cases hv : v = 2
            · have hb : (v == 2) = true := by simp [hv]
              rw [if_pos hv, HF1.out] at hR
              clear hv
              gi_wp2_with fail
              refine ⟨trivial, rfl, (CallsIn.inRound _ (callsIn_wide.2 (lfail_got sb s km ans u kn _ _ q W2 hS.sbb hS.sk hrc (by omega) (i64_of HCS.out (by omega)) (hS.tab ht) HQ.out))).mono ?_⟩
              rw [hb]
              rintro e W3 ⟨rfl, hf3, hs3⟩
              have hS3 := hS.asked L hf3 hs3
              have hrc3 := hrc.fr hf3 (fun _ a ha => by injection ha with ha; subst ha; simp; omega)
              gi_wp2_with fail
              refine ⟨trivial, rfl, (CallsIn.inRound _ (callsIn_wide.2 (fresh_any _ _ q W3 hrc3 (by omega)))).mono ?_⟩
              simp only [RetOwn, List.length_map]
              rintro e W4 ⟨A4, c4, rfl, hf4, ho4⟩
              have hS4 := hS3.fr_ L hf4
              have hgl := hS3.gb.lt
              have hsz3 := hS3.fr.size
              have hat4 : 0 < q.length → ∀ a, A4 = some a → B ≤ a.block ∧ a.block ≠ w.heap.size + 1 + 1 := fun _ a ha => by
                have := Nw.own ho4 a ha
                omega
              have hS5 := hS4.putC L (own_rd ho4 rfl rfl) hat4
              have hS6 := hS4.put (g2 := 2) L (own_rd ho4 rfl rfl) hat4
              have e5 := hS4.cb.cell 0 rfl
              have f5 := hS4.cb.frozen 0
              have e6 := hS5.gb.cell 0 rfl
              have f6 := hS5.gb.frozen 0
              gi_wp2_with fail
              refine ⟨hS.clear (S := [s, km, w.heap.size, w.heap.size + 1 + 1]) hn ((((hf3.trans0 hf4).mono (by simp)).setCell (.inl (by simp)) _).setCell (.inl (by simp)) _) (fun x hx => hx), rfl, A4, c4, q, 2, u', kn', hS6, ⟨Nat.le_refl _, by omega⟩, hcl2, by omega, HCS, hR⟩
            · have hb : (v == 2) = false := by simpa using hv
              rw [if_neg hv] at hR
              clear hv
              gi_wp2_with fail
              refine ⟨trivial, rfl, (CallsIn.inRound _ (callsIn_wide.2 (lfail_got sb s km ans u kn _ _ q W2 hS.sbb hS.sk hrc (by omega) (i64_of HCS.out (by omega)) (hS.tab ht) HQ.out))).mono ?_⟩
              rw [hb]
              rintro e W3 ⟨rfl, hf3, hs3⟩
              gi_wp2_with fail
              exact ⟨hS.clear hn hf3 (by simp), hk, u', kn', hS.asked L hf3 hs3, hB1.fr hf3 (by simp; omega), hB2.fr hf3 (by simp; omega), hR⟩
        case done =>
          rintro W2 ⟨_, u, kn, hS2, hB1, hB2, hfu2⟩ hmk
          rw [scan_done (by rw [HLC.out]; exact Nat.le_refl _)] at hfu2
          have hS3 := hS2.mark (by have := HZ1.out; omega) hmk
          have hnd3 : (W1.heap.size :: ms).Nodup := List.nodup_cons.2 ⟨fun h => by have := hmsb _ h; have := HZ1.out; omega, hnd⟩
          obtain ⟨ms2, hms2⟩ : ∃ m, m = W1.heap.size :: ms := ⟨_, rfl⟩
          rw [← hms2] at hS3 hnd3
          show wpR _ _ _ _ _
          rw [show markOf W1.heap.size :: ms.map markOf = ms2.map markOf by rw [hms2]; rfl]
          clear hms2
          dsimp only
          have e0 := hS3.cb.cell 0 rfl
          have e2 := hS3.gb.cell 0 rfl
          refine wpR_seq (wpR_seq (wpR_of_wp ?_))
          go_wp2_with fail
          refine (cuts_any (some ⟨b0, o0, none⟩) cc c.length g W2 (by omega)).mono ?_
          rintro e w1 ⟨rfl, rfl⟩
          go_wp2
          refine wpR_block ?_
          have hgv := cuts_gives W2.heap.size b0 o0 c.length cc (cutN c.length (g : Int)) (some ⟨b0, o0, none⟩) (fun _ => rfl) (by omega) (cutN_le c.length (g : Int)) hS3.rd.le hcb
          rw [HNN.out] at hgv
          rw [HNN.out]
          have hzW2 := hS3.fr.size
          obtain ⟨W4, hW4⟩ : ∃ W1, W1 = (W2.alloc (.cells #[.slice (some ⟨b0, o0, none⟩) c.length cc] 22)).alloc (.cells #[.int .i64 N] 3) := ⟨_, rfl⟩
          have hz4 : W4.heap.size = W2.heap.size + 1 + 1 := by rw [hW4]; simp
          have HZ4 := Lib.hid hz4
          have hfW4 : Fr [] W2 W4 := by rw [hW4]; exact (by repeat (first | exact Fr.refl _ _ | assumption | apply Fr.drewN | apply Fr.drew | apply Fr.alloc | refine Fr.setCell ?_ (by simp) _))
          obtain ⟨f2, hf2⟩ : ∃ f, (fun x => minT s' x (max (g - 1) 2)) = f := ⟨_, rfl⟩
          have HF2 : Hid (∀ x, f2 x = minT s' x (max (g - 1) 2)) := by rw [← hf2]; exact fun _ => rfl
          have hfu2 : Hid (full = (scanT f2 d2 qs2).go (askS ans) (u, kn)) := by show _ = _; rw [hfu2.out, ← HD1.out, hf2]
          clear hf2
          have hI4 : MinI w0 w s km sb B ans full ms2 (some ⟨b0, o0, none⟩) cc c g W2.heap.size N f2 d2 qs2 0 W4 :=
            ⟨Nat.zero_le _, u, kn, hS3.fr_ L hfW4, by rw [hW4]; exact (Blk.new W2 _ _ _ rfl).alloc _, by rw [hW4]; exact Blk.new _ _ _ _ (by simp), hfu2⟩
          rw [← hW4]
          clear hW4 hz4
          have hmsb2 := hS3.below
          clear hfu2 hB1 hB2
          refine wpR_rangeFunc 24 rfl rfl hent hgv (MinI w0 w s km sb B ans full ms2 (some ⟨b0, o0, none⟩) cc c g W2.heap.size N f2 d2 qs2)
            (fun code W => code = .exit 1 ∧ MinO w0 w s km sb B n ans full ms2 s' W) (MinQ w s km B full ms2) W4.heap.size rfl
            (fun k W W' h hn hf => h.nc L (by have := HZ4.out; omega) (fun D' hD' => by have := hmsb2 D' hD'; have := HZ4.out; omega) hn hf) (fun code W W' h hn hf => ⟨h.1, h.2.nc L (by have := HZ4.out; omega) (fun D' hD' => by have := hmsb2 D' hD'; have := HZ4.out; omega) hn hf⟩)
            (fun k W h => by obtain ⟨_, _, _, _, h3, h4, _⟩ := h; exact ⟨h3.cell 0 rfl, h4.cell 0 rfl⟩) (fun W hf _ => hI4.fr_ L hf)
            (fun k => { tmps := #[f 0, f 1, .pointer (some ⟨w.heap.size, 0, none⟩), .pointer (some ⟨w.heap.size + 1, 0, none⟩), f 4, .pointer (some ⟨w.heap.size + 1 + 1, 0, none⟩), f 6, chunkV b0 o0 c.length cc N k, f 8, .slice (some ⟨b0, o0, none⟩) c.length cc, .int .i64 c.length, .bool true, .slice (some ⟨b0, o0, none⟩) c.length cc, .int .i64 g, .func (.func 103) #[] #[.pointer (some ⟨W.heap.size + 1, 0, none⟩), .pointer (some ⟨W.heap.size, 0, none⟩)], f 15, f 16, f 17, f 18, f 19, f 20, .slice (some ⟨b0, o0, none⟩) c.length cc, .int .i64 g, .func (.func 103) #[] #[.pointer (some ⟨W2.heap.size + 1, 0, none⟩), .pointer (some ⟨W2.heap.size, 0, none⟩)], chunkV b0 o0 c.length cc N k, f 25, f 26, f 27, f 28, f 29, f 30, f 31, f 32, f 33, f 34, f 35, f 36, f 37, f 38, f 39, f 40, f 41, f 42, f 43, f 44, f 45, f 46, f 47, f 48, f 49, f 50, f 51], defers := [] })
            ?assign2 ?body2 ?done2 ?stop2 ?pan2
          case assign2 =>
            intro l k W K hK
            gi_wp2
            exact hK
          case body2 =>
            rintro k W5 hk ⟨_, u, kn, hS, hB1, hB2, hfu⟩ hn
            have hch := Lib.hid (chunkV_eq (b := b0) (o := o0) (c := cc) (N := N) (xs := c) hk)
            have hrc := (hS.rd.chunk hk hNm : Rd W5 (.int .i64) (some ⟨b0, o0 + k * c.length / N, none⟩) (cc - k * c.length / N) (chunkOf c N k))
            have hqk := Lib.hid (HQR.out k hk)
            obtain ⟨hcs, hcm, hcl2⟩ := HMR.out k hk
            rw [hch.out]
            generalize chunkOf c N k = x at *
            have HCS := Lib.hid hcs
            clear hcs
            have e0 := hS.cb.cell 0 rfl
            gi_wp2_with fail
            refine ⟨trivial, rfl, (CallsIn.inRound _ (callsIn_wide.2 (without_any _ _ cc _ c x W5 hS.rd hrc (by omega)))).mono ?_⟩
            simp only [RetOwn, List.length_map]
            rintro e W6 ⟨A6, c6, rfl, hf6, ho6⟩
            have hS6 := hS.fr_ L hf6
            have hr6 : Rd W6 (.int .i64) A6 c6 (minus c x) := own_rd ho6 rfl rfl
            have hsz5 := hS.fr.size
            have hgl := hS.gb.lt
            have hat6 : 0 < (minus c x).length → ∀ a, A6 = some a → B ≤ a.block ∧ a.block ≠ w.heap.size + 1 + 1 := fun _ a ha => by
              have := Nw.own ho6 a ha
              omega
            clear ho6 hrc
            generalize minus c x = q at *
            have e1 := hS6.fb.cell 0 rfl
            rcases hq : askV ans u kn q with _ | ⟨v, u', kn'⟩
            · have hR : Hid (full = .inl q) := by show _ = _; rw [hfu.out, scan_none hqk.out hq]
              have HQ := Lib.hid hq
              clear hq hfu
              gi_wp2_with fail
              refine ⟨trivial, rfl, (CallsIn.inRound _ (callsIn_wide.2 (lfail_ask sb s km ans u kn _ _ q W6 hS6.sbb hS6.sk hr6 (by omega) (i64_of HCS.out (by omega)) (hS6.tab ht) HQ.out))).mono ?_⟩
              rintro e W7 ⟨A7, c7, rfl, hr7, hf7, hn7⟩
              gi_wp2
              exact ⟨rfl, hS.clear hn (hf6.trans hf7) (by simp), hS6.quit L hf7 hr7 hn7 hR⟩
            · have hR : Hid (full = (if v = 2 then f2 q else scanT f2 d2 (qs2.drop (k + 1))).go (askS ans) (u', kn')) := by show _ = _; rw [hfu.out, scan_some hqk.out hq]
              have HQ := Lib.hid hq
              clear hq hfu
              by_cases hv : v = 2
              · have hb : (v == 2) = true := by simp [hv]
                rw [if_pos hv, HF2.out] at hR
                clear hv
                gi_wp2_with fail
                refine ⟨trivial, rfl, (CallsIn.inRound _ (callsIn_wide.2 (lfail_got sb s km ans u kn _ _ q W6 hS6.sbb hS6.sk hr6 (by omega) (i64_of HCS.out (by omega)) (hS6.tab ht) HQ.out))).mono ?_⟩
                rw [hb]
                rintro e W7 ⟨rfl, hf7, hs7⟩
                have hS7 := hS6.asked L hf7 hs7
                have hr7 := hr6.fr hf7 (fun h0 a ha => by have := (hat6 h0 a ha).1; simp; omega)
                have hS8 := hS7.putC L hr7 hat6
                have e5 := hS7.cb.cell 0 rfl
                have f5 := hS7.cb.frozen 0
                have e6 := hS8.gb.cell 0 rfl
                have f6 := hS8.gb.frozen 0
                have hcl7 : Clear W4.heap.size W5 ((W7.setCell ⟨w.heap.size, 0, none⟩ (.slice A6 q.length c6)).setCell ⟨w.heap.size + 1 + 1, 0, none⟩ (.int .i64 (max (g - 1) 2 : Nat))) :=
                  hS.clear (S := [s, km, w.heap.size, w.heap.size + 1 + 1]) hn (((((hf6.mono (by simp)).trans hf7).mono (by simp)).setCell (.inl (by simp)) _).setCell (.inl (by simp)) _) (fun x hx => hx)
                have hO9 : MinO w0 w s km sb B n ans full ms2 s' ((W7.setCell ⟨w.heap.size, 0, none⟩ (.slice A6 q.length c6)).setCell ⟨w.heap.size + 1 + 1, 0, none⟩ (.int .i64 (max (g - 1) 2 : Nat))) :=
                  ⟨A6, c6, q, max (g - 1) 2, u', kn', hS7.put (g2 := max (g - 1) 2) L hr7 hat6, by omega, hcl2, by omega, HCS, hR⟩
                have HO9 := Lib.hid hO9
                have HCL := Lib.hid hcl7
                clear hO9 hcl7 hcm
                by_cases hg3 : g = 2
                · subst hg3
                  gi_wp2_with fail
                  exact ⟨HCL.out, rfl, HO9.out⟩
                · obtain ⟨m, rfl⟩ : ∃ m : Nat, g = m + 1 := ⟨g - 1, by omega⟩
                  have hm2 : max (m + 1 - 1) 2 = m := by omega
                  rw [hm2] at HCL HO9
                  have hw1 : IntKind.i64.wrap ((m : Int) + 1 - 1) = (m : Int) := by rw [Int.add_sub_cancel]; exact IntWalk.i64_in _ (by omega)
                  have hw2 : IntKind.i64.wrap (m : Int) = (m : Int) := IntWalk.i64_in _ (by omega)
                  have hw3 : ¬ (m : Int) < 2 := by omega
                  have hw4 : max (m : Int) 2 = (m : Int) := by omega
                  gi_wp2_with fail
                  exact ⟨HCL.out, rfl, HO9.out⟩
              · have hb : (v == 2) = false := by simpa using hv
                rw [if_neg hv] at hR
                clear hv
                gi_wp2_with fail
                refine ⟨trivial, rfl, (CallsIn.inRound _ (callsIn_wide.2 (lfail_got sb s km ans u kn _ _ q W6 hS6.sbb hS6.sk hr6 (by omega) (i64_of HCS.out (by omega)) (hS6.tab ht) HQ.out))).mono ?_⟩
                rw [hb]
                rintro e W7 ⟨rfl, hf7, hs7⟩
                gi_wp2_with fail
                have hf57 : Fr [s, km] W5 W7 := (hf6.mono (by simp)).trans hf7
                exact ⟨hS.clear hn hf57 (by simp), hk, u', kn', hS6.asked L hf7 hs7, hB1.fr hf57 (by simp; omega), hB2.fr hf57 (by simp; omega), hR⟩
          case done2 =>
            rintro W3 ⟨_, u, kn, hS5, hB1, hB2, hfu2⟩ hmk
            rw [scan_done (by rw [HLR.out]; exact Nat.le_refl _), ← HD2.out] at hfu2
            have hS6 := hS5.mark (by have := HZ4.out; omega) hmk
            have hnd4 : (W4.heap.size :: ms2).Nodup := List.nodup_cons.2 ⟨fun h => by have := hmsb2 _ h; have := HZ4.out; omega, hnd3⟩
            obtain ⟨ms3, hms3⟩ : ∃ m, m = W4.heap.size :: ms2 := ⟨_, rfl⟩
            rw [← hms3] at hS6 hnd4
            show wpR _ _ _ _ _
            rw [show markOf W4.heap.size :: ms2.map markOf = ms3.map markOf by rw [hms3]; rfl]
            clear hms3
            dsimp only
            have e0 := hS6.cb.cell 0 rfl
            have e2 := hS6.gb.cell 0 rfl
            have f2 := hS6.gb.frozen 0
            refine wpR_of_wp ?_
            by_cases hge : c.length ≤ g
            · rw [if_pos hge] at hfu2
              go_wp2_with fail
              obtain ⟨f', hf'⟩ := minAct_of (w := w) (ms := ms3)
              exact ⟨f', ms3, _, cc, c, g, u, kn, hf', hnd4, hS6, hcl, hfu2⟩
            · rw [if_neg hge] at hfu2
              have hmf := min_finer hg (Nat.lt_of_not_le hge)
              by_cases hge2 : 2 * g ≤ c.length
              · have hmn : min (2 * g) c.length = 2 * g := by omega
                rw [hmn] at hmf hfu2
                have hw1 : IntKind.i64.wrap (2 * (g : Int)) = ((2 * g : Nat) : Int) := by rw [IntWalk.i64_in _ (by omega)]; omega
                have hw3 : ¬ (c.length : Int) < ((2 * g : Nat) : Int) := by omega
                have hw4 : min ((2 * g : Nat) : Int) (c.length : Int) = ((2 * g : Nat) : Int) := by omega
                have hO := (⟨_, cc, c, 2 * g, u, kn, hS6.putG L, ⟨by omega, by omega⟩, hcl, by omega, hset, hfu2⟩ : MinO w0 w s km sb B n ans full ms3 s' _)
                generalize 2 * g = g2 at *
                have HO := Lib.hid hO
                clear hO hge2 hmf hmn
                go_wp2_with fail
                obtain ⟨f', hf'⟩ := minAct_of (w := w) (ms := ms3)
                exact ⟨f', ms3, hf', hnd4, HO.out⟩
              · have hmn : min (2 * g) c.length = c.length := by omega
                rw [hmn] at hmf hfu2
                have hw1 : IntKind.i64.wrap (2 * (g : Int)) = ((2 * g : Nat) : Int) := by rw [IntWalk.i64_in _ (by omega)]; omega
                have hw3 : (c.length : Int) < ((2 * g : Nat) : Int) := by omega
                have hw4 : min ((2 * g : Nat) : Int) (c.length : Int) = (c.length : Int) := by omega
                have hw5 : ¬ ((2 * g : Nat) : Int) < (c.length : Int) := by omega
                have hO := (⟨_, cc, c, c.length, u, kn, hS6.putG L, ⟨by omega, by omega⟩, hcl, by omega, hset, hfu2⟩ : MinO w0 w s km sb B n ans full ms3 s' _)
                generalize 2 * g = g2 at *
                have HO := Lib.hid hO
                clear hO hge2 hmf hmn
                go_wp2_with fail
                obtain ⟨f', hf'⟩ := minAct_of (w := w) (ms := ms3)
                exact ⟨f', ms3, hf', hnd4, HO.out⟩
          case stop2 =>
            rintro code W3 ⟨rfl, hO⟩ hmk
            refine wpR_of_wp ?_
            go_wp2
            obtain ⟨f', hf'⟩ := minAct_of (w := w) (ms := W4.heap.size :: ms2)
            exact ⟨f', _, hf', List.nodup_cons.2 ⟨fun h => by have := hmsb2 _ h; have := HZ4.out; omega, hnd3⟩, hO.mark (by have := HZ4.out; omega) hmk⟩
          case pan2 =>
            rintro ch W3 hQ hmk
            exact ⟨W4.heap.size :: ms2, rfl, List.nodup_cons.2 ⟨fun h => by have := hmsb2 _ h; have := HZ4.out; omega, hnd3⟩, hQ.mark (by have := HZ4.out; omega) hmk⟩
        case stop =>
          rintro code W2 ⟨rfl, hO⟩ hmk
          refine wpR_of_wp ?_
          go_wp2
          obtain ⟨f', hf'⟩ := minAct_of (w := w) (ms := W1.heap.size :: ms)
          exact ⟨f', _, hf', List.nodup_cons.2 ⟨fun h => by have := hmsb _ h; have := HZ1.out; omega, hnd⟩, hO.mark (by have := HZ1.out; omega) hmk⟩
        case pan =>
          rintro ch W2 hQ hmk
          exact ⟨W1.heap.size :: ms, rfl, List.nodup_cons.2 ⟨fun h => by have := hmsb _ h; have := HZ1.out; omega, hnd⟩, hQ.mark (by have := HZ1.out; omega) hmk⟩
      · have hd : decide ((c.length : Int) ≥ 2) = false := by simp; omega
        rw [minT_le1 h2] at hfu
        unfold MinAct
        refine wpR_seq (wpR_of_wp ?_)
        go_wp2_with fail
        obtain ⟨f', hf'⟩ := minAct_of (w := w) (ms := ms)
        exact ⟨f', ms, A, cc, c, g, u, kn, hf', hnd, hS, hcl, hfu⟩
  case rest =>
    rintro e a W h
    cases e <;> first | exact h.elim | skip
    case panic ch =>
      obtain ⟨ms, hd, hnd, hQ⟩ := h
      show LeavesInM _ _ _ _ _ _ _ _ _
      rw [hd]
      exact leaves_marks _ (by simp) ms W hnd (fun D hD => (hQ.marks D hD).2) fun W' hf' => hQ.leave hf'
    case normal =>
      obtain ⟨f, ms, A, cc, c, g, u, kn, rfl, hnd, hS, hcl, hfu⟩ := h
      refine wpR_of_wp ?_
      have e0 := hS.cb.cell 0 rfl
      have f0 := hS.cb.frozen 0
      have e1 := hS.fb.cell 0 rfl
      have hmk : ∀ D ∈ ms, W.heap[D]? = some (.deferred (some [])) := fun D hD => (hS.marks D hD).2
      unfold MinAct
      by_cases h1 : c.length = 1
      · have hd : decide ((c.length : Int) = 1) = true := by simp [h1]
        have hi1 : ((c.length : Int) == 1) = true := by simp [h1]
        unfold minFin at hfu
        rw [if_pos h1] at hfu
        rcases hq : askV ans u kn [] with _ | ⟨v, u', kn'⟩
        · rw [Tr.go_none (askS_none hq)] at hfu
          have HQ := Lib.hid hq
          clear hq
          go_wp2_with fail
          refine (lfail_ask sb s km ans u kn none 0 [] W hS.sbb hS.sk (Rd.nil_ _ _) (by simp) (fun x hx => by simp at hx) (hS.tab ht) HQ.out).mono ?_
          rintro e W2 ⟨A2, c2, rfl, hr2, hf2, hn2⟩
          have hQ := hS.quit L hf2 hr2 hn2 hfu
          go_wp2
          exact leaves_marks _ (by simp) ms W2 hnd (fun D hD => (hQ.marks D hD).2) fun W' hf' => hQ.leave hf'
        · rw [Tr.go_some (askS_some hq)] at hfu
          have HQ := Lib.hid hq
          clear hq
          by_cases hv : v = 2
          · have hb : (v == 2) = true := by simp [hv]
            have hfu2 : Hid (full = .inr ([], (u', kn'))) := by show _ = _; rw [hfu.out, if_pos hv]; rfl
            clear hfu hv
            go_wp2_with fail
            refine (lfail_got sb s km ans u kn none 0 [] W hS.sbb hS.sk (Rd.nil_ _ _) (by simp) (fun x hx => by simp at hx) (hS.tab ht) HQ.out).mono ?_
            rw [hb]
            rintro e W2 ⟨rfl, hf2, hs2⟩
            have hS2 := hS.asked L hf2 hs2
            have e0 := hS2.cb.cell 0 rfl
            have f0 := hS2.cb.frozen 0
            go_wp2_with fail
            have hS3 := hS2.putC L (Rd.nil_ W2 (.int .i64)) (by simp)
            refine leaves_marks .returning (by simp) ms _ hnd (fun D hD => (hS3.marks D hD).2) fun W' hf' => ?_
            refine ⟨_, results_tmp rfl _ _ _, ?_⟩
            exact hS3.leave L (Rd.nil_ _ _) (by simp) hfu2.out hf'
          · have hb : (v == 2) = false := by simpa using hv
            have hfu2 : Hid (full = .inr (c, (u', kn'))) := by show _ = _; rw [hfu.out, if_neg hv]; rfl
            clear hfu hv
            go_wp2_with fail
            refine (lfail_got sb s km ans u kn none 0 [] W hS.sbb hS.sk (Rd.nil_ _ _) (by simp) (fun x hx => by simp at hx) (hS.tab ht) HQ.out).mono ?_
            rw [hb]
            rintro e W2 ⟨rfl, hf2, hs2⟩
            have hS2 := hS.asked L hf2 hs2
            have e0 := hS2.cb.cell 0 rfl
            go_wp2_with fail
            refine leaves_marks .returning (by simp) ms W2 hnd (fun D hD => (hS2.marks D hD).2) fun W' hf' => ?_
            refine ⟨_, results_tmp rfl _ _ _, ?_⟩
            have := hS2.leave L hS2.rd (fun h0 a ha => (hS2.at_ h0 a ha).1) hfu2.out hf'
            rw [h1] at this
            exact this
      · have hi1 : ((c.length : Int) == 1) = false := by rw [beq_eq_false_iff_ne]; omega
        unfold minFin at hfu
        rw [if_neg h1] at hfu
        go_wp2_with fail
        refine leaves_marks .returning (by simp) ms W hnd hmk fun W' hf' => ?_
        refine ⟨_, results_tmp rfl _ _ _, ?_⟩
        exact hS.leave L hS.rd (fun h0 a ha => (hS.at_ h0 a ha).1) hfu.out hf'
end Go.Proofs.YtjpbmbonccenfaaDoor

/- List of the program: the function that run is handed. -/
namespace Go.Proofs.YtjpbmbonccenfaaDoor
open Go Go.RowKit
set_option linter.unusedVariables false

set_option maxRecDepth 100000 in
set_option maxHeartbeats 3200000 in
theorem listdo_any (s km bn bc h0 : Nat) (ans : List Int) (w0 w1 : World) (n : Int) (hw0 : Fr [] w0 w1) (htab : Tab w0) (hn : n ≤ 256)
    (hB : w0.heap.size ≤ bc) (hbh : bc < h0) (hbnh : bn < h0) (hnc : bn ≠ bc) (hs0 : h0 < km) (hs1 : km < s) (hs2 : s < w1.heap.size) (hsk : SK w1 s km ans 0 []) (hbn : Blk w1 bn 3 #[.int .i64 n])
    (hbc : Blk w1 bc 22 #[.slice none 0 0]) :
    Calls Tryd.prog 72 #[.pointer (some ⟨s, 0, none⟩), .pointer (some ⟨bn, 0, none⟩), .pointer (some ⟨bc, 0, none⟩)] w1 (SetDo w1 s km bc h0 w1.heap.size ans ((listT n.toNat).go (askS ans) (0, []))) := by
  have hul := upTo_length n.toNat
  have HUS := Lib.hid (upTo_set n.toNat)
  have HTD : Hid (listT n.toNat = .ask (upTo n.toNat) fun v => if v = 2 then (minT (minM (upTo n.toNat) 2 + 1) (upTo n.toNat) 2).map fun c => (0, c, []) else .ret (7, [], [])) := rfl
  have hal : (upTo n.toNat).length ≤ 256 := by omega
  have hn256 : n.toNat ≤ 256 := by omega
  obtain ⟨all, hall⟩ : ∃ all, all = upTo n.toNat := ⟨_, rfl⟩
  rw [← hall] at HUS HTD hal
  have hwh : ∀ W, Calls Tryd.prog 73 #[.int .i64 n] W (RetN W 3 all) := fun W => by rw [hall]; exact whole_any n W (by omega)
  clear hall
  clear hul
  obtain ⟨full, hful⟩ : ∃ f, (listT n.toNat).go (askS ans) (0, []) = f := ⟨_, rfl⟩
  rw [hful]
  have HFUL := Lib.hid hful
  have HN := Lib.hid hn256
  clear hful hn256
  have hcand0 : ∀ W, Fr [s, km] w1 W → CandAt W bc (Out h0 w1.heap.size) [] := fun W hf => ⟨none, 0, hbc.fr hf (by simp; omega), Rd.nil_ _ _, by simp⟩
  have k0 := hbn.cell 0 rfl
  have hsb : Blk (w1.alloc (.cells #[.pointer (some ⟨s, 0, none⟩)] 91)) w1.heap.size 91 #[.pointer (some ⟨s, 0, none⟩)] := Blk.new w1 _ _ _ rfl
  obtain ⟨W, hW⟩ : ∃ W, W = w1.alloc (.cells #[.pointer (some ⟨s, 0, none⟩)] 91) := ⟨_, rfl⟩
  have hfW : Fr [] w1 W := by rw [hW]; exact (Fr.refl _ _).alloc _
  have hzW : W.heap.size = w1.heap.size + 1 := by rw [hW]; simp
  rw [← hW] at hsb
  have HW := Lib.hid hW.symm
  have HZ := Lib.hid hzW
  clear hW hzW
  have k1 := (hbn.alloc (.cells #[.pointer (some ⟨s, 0, none⟩)] 91)).cell 0 rfl
  go_enter Tryd.func72, Tryd.ntmps72
  go_wp2_with fail
  rw [HW.out]
  refine (hwh W).mono ?_
  rintro e w2 ⟨A2, c2, rfl, hf2, ho2⟩
  have hf12 := hfW.trans hf2
  have hr2 : Rd w2 (.int .i64) A2 c2 all := (Rd.of_own ho2).2
  have hsb2 := hsb.fr hf2 (by simp)
  have e3 := hsb2.cell 0 rfl
  have hat2 : 0 < all.length → ∀ a, A2 = some a → w1.heap.size ≤ a.block := fun _ a ha => by have := Nw.own ho2 a ha; have := HZ.out; omega
  clear k0 k1
  rcases hq : askV ans 0 [] all with _ | ⟨v, u, kn⟩
  · have hR : Hid (full = .inl all) := by show _ = _; rw [← HFUL.out, HTD.out, Tr.go_none (askS_none hq)]
    have HQ := Lib.hid hq
    clear hq
    go_wp2_with fail
    refine (fails_ask s km ans 0 [] A2 c2 all w2 (hsk.fr0 hf12) hr2 (by omega) (i64_of HUS.out (by have := HN.out; omega)) (htab.fr (hw0.trans hf12)) HQ.out).mono ?_
    rintro e w3 ⟨A3, c3, rfl, hr3, hf3, hnw⟩
    go_wp2
    rw [hR.out]
    exact ⟨rfl, A3, c3, rfl, hr3, (hf12.trans hf3).mono (by simp), hnw.mono hf12.size, [], hcand0 _ ((hf12.trans hf3).mono (by simp)), by simp⟩
  · have hfl : full = (if v = 2 then (minT (minM all 2 + 1) all 2).map fun c => (0, c, []) else .ret (7, [], [])).go (askS ans) (u, kn) := by
      rw [← HFUL.out, HTD.out, Tr.go_some (askS_some hq)]
    have HQ := Lib.hid hq
    clear hq
    by_cases hv : v = 2
    · have hb : (v == 2) = true := by simp [hv]
      rw [if_pos hv, Tr.go_map] at hfl
      clear hv
      have HFL := Lib.hid hfl
      clear hfl
      go_wp2_with fail
      refine (fails_got s km ans 0 [] A2 c2 all w2 (hsk.fr0 hf12) hr2 (by omega) (i64_of HUS.out (by have := HN.out; omega)) (htab.fr (hw0.trans hf12)) HQ.out).mono ?_
      rw [hb]
      rintro e w3 ⟨rfl, hf3, hsk3⟩
      have hmf : ∀ (fn : Fn) (first cap : Array Value) (w : World), (Instr.makeFunc fn first cap).run Tryd.prog w = .ok (.func fn first cap) w := fun _ _ _ _ => rfl
      have hf13 : Fr [s, km] w1 w3 := (hf12.mono (by simp)).trans hf3
      have hz12 := hf12.size
      have hz3 := hf3.size
      have hz1 := HZ.out
      have hz2 := hf2.size
      have hsb3 := hsb2.fr hf3 (by simp; omega)
      have hr3 := hr2.fr hf3 (fun h0 a ha => by have := hat2 h0 a ha; simp; omega)
      have hw03 : Fr [] w0 w3 := hw0.trans2 hf13 (by have := hw0.size; simp; omega)
      have hmin := minimal_any w0 w3 s km w1.heap.size w1.heap.size n.toNat ans u kn A2 c2 all ⟨by omega, by omega, by omega, Nat.le_refl _, by omega⟩ htab hw03 hsk3 hr3 hat2 HUS.out (by omega) HN.out hsb3
      have HEN : Hid (∀ c u' kn', (minT (minM all 2 + 1) all 2).go (askS ans) (u, kn) = .inr (c, (u', kn')) → isSet n.toNat c = true) := fun c u' kn' h => Tr.ends_go (P := fun q => isSet n.toNat q = true) _ _ (minT_ends _ _ _ HUS.out) h
      generalize (minT (minM all 2 + 1) all 2).go (askS ans) (u, kn) = m at *
      rcases m with q | ⟨c, u', kn'⟩
      · have hR : Hid (full = .inl q) := HFL.out
        clear HFL HEN
        go_wp2_with fail
        refine hmin.mono ?_
        rintro e w4 ⟨A4, c4, rfl, hr4, hf4, hn4⟩
        go_wp2
        rw [hR.out]
        exact ⟨rfl, A4, c4, rfl, hr4, (hf13.trans hf4).mono (by simp), hn4, [], hcand0 _ (hf13.trans hf4), by simp⟩
      · have hR : Hid (full = .inr ((0, c, []), (u', kn'))) := HFL.out
        have hcs := HEN.out c u' kn' rfl
        clear HFL HEN
        go_wp2_with fail
        refine hmin.mono ?_
        rintro e w4 ⟨A4, c4, rfl, hr4, hf4, hsk4, hat4⟩
        have hf14 := hf13.trans hf4
        have hbc4 := hbc.fr hf14 (by simp; omega)
        have e5 := hbc4.cell 0 rfl
        have f5 := hbc4.frozen 0
        have hcl := (set_inR hcs).2
        have hn4 := HN.out
        go_wp2_with fail
        go_ret
        rw [hR.out]
        refine ⟨rfl, (hsk4.farS hbc4 (by omega) (by omega) _).srch, (hf14.mono (by simp)).setCell (.inl (by simp)) _, c, ⟨A4, c4, hbc4.set_ 0 _, hr4.setCell (fun h0 a ha => ?_) _, fun h0 a ha => .inr (hat4 h0 a ha)⟩, by omega, fun _ => rfl⟩
        have := hat4 h0 a ha
        show a.block ≠ bc
        omega
    · have hb : (v == 2) = false := by simpa using hv
      rw [if_neg hv] at hfl
      have hR : Hid (full = .inr ((7, [], []), (u, kn))) := hfl
      clear hfl hv
      go_wp2_with fail
      refine (fails_got s km ans 0 [] A2 c2 all w2 (hsk.fr0 hf12) hr2 (by omega) (i64_of HUS.out (by have := HN.out; omega)) (htab.fr (hw0.trans hf12)) HQ.out).mono ?_
      rw [hb]
      rintro e w3 ⟨rfl, hf3, hsk3⟩
      have hf13 : Fr [s, km] w1 w3 := (hf12.mono (by simp)).trans hf3
      go_wp2
      go_ret
      rw [hR.out]
      exact ⟨rfl, hsk3.srch, hf13.mono (by simp), [], hcand0 _ hf13, by simp, by simp⟩
end Go.Proofs.YtjpbmbonccenfaaDoor

/- List of the program. -/
namespace Go.Proofs.YtjpbmbonccenfaaDoor
open Go.RowKit
set_option linter.unusedVariables false

theorem enter_list (args : Array Value) (w : World) : (callFunc 72 args).run Tryd.prog w = .ok (.enter 72 args) w := by
  simp [go_sem]
theorem listT_pass (n : Nat) : (listT n).Ends fun r => r.2.2 = [] := fun v => by
  show Tr.Ends _ (if v = 2 then _ else _)
  by_cases hv : v = 2
  · rw [if_pos hv]
    exact Tr.ends_map (Tr.ends_true (fun _ => rfl) _)
  · rw [if_neg hv]; rfl

set_option maxRecDepth 100000 in
set_option maxHeartbeats 6400000 in
theorem List_any (D : Option Addr) (d : Nat) (n : Int) (ans : List Int) (w : World) (hd : Rd w (.int .u8) D d ans) (htab : Tab w) :
    Calls Tryd.prog 25 #[.int .i64 n, .slice D ans.length d] w (RetQstF w.heap.size w (listOf n ans)) := by
  have hn : ∀ W : World, Rd W (.int .i64) none 0 ([] : List Int) ∧ Nw w.heap.size none := fun W => ⟨Rd.nil_ W _, Nw.none_ _⟩
  have hmf : ∀ (fn : Fn) (first cap : Array Value) (w : World), (Instr.makeFunc fn first cap).run Tryd.prog w = .ok (.func fn first cap) w := fun _ _ _ _ => rfl
  obtain ⟨W, hW⟩ : ∃ W, W = ((w.alloc (.cells #[.int .i64 n] 3)).alloc (.cells #[.bool false, .slice none 0 0, .slice none 0 0, .slice none 0 0] 34)) := ⟨_, rfl⟩
  have hsz : W.heap.size = w.heap.size + 2 := by rw [hW]; simp
  have hfW : Fr [] w W := by rw [hW]; exact (by repeat (first | exact Fr.refl _ _ | assumption | apply Fr.drewN | apply Fr.drew | apply Fr.alloc | refine Fr.setCell ?_ (by simp) _))
  have hbN : Blk W w.heap.size 3 #[.int .i64 n] := by rw [hW]; exact (Blk.new w _ _ _ rfl).alloc _
  have hbQ : Blk W (w.heap.size + 1) 34 #[.bool false, .slice none 0 0, .slice none 0 0, .slice none 0 0] := by rw [hW]; exact Blk.new (w.alloc _) _ _ _ (by simp)
  have q0 := ((Blk.new w 3 #[.int .i64 n] _ rfl).alloc (.cells #[.bool false, .slice none 0 0, .slice none 0 0, .slice none 0 0] 34)).cell 0 rfl
  have HW := Lib.hid hW.symm
  by_cases h256 : 256 < n
  · have hcb : decide (n > 256) = true := by simpa using h256
    have hR : Hid (listOf n ans = (qNone, 3)) := by show _ = _; unfold listOf; rw [if_pos h256]
    have qc0 := hbQ.cell 0 rfl
    have qc1 := hbQ.cell 1 rfl
    have qc2 := hbQ.cell 2 rfl
    have qc3 := hbQ.cell 3 rfl
    have qd0 := hbQ.frozen 0
    have qd1 := hbQ.frozen 1
    have qd2 := hbQ.frozen 2
    have qd3 := hbQ.frozen 3
    rw [hW] at qc0 qc1 qc2 qc3 qd0 qd1 qd2 qd3
    clear hW
    go_enter Tryd.func25, Tryd.ntmps25
    go_wp2_with fail
    rw [HW.out]
    refine bodyPost_ret (results_qst rfl _ _ (w.heap.size + 1) rfl hbQ) rfl ?_
    rw [hR.out]
    exact ⟨_, rfl, hfW, none, 0, none, 0, none, 0, rfl, hn _, hn _, hn _⟩
  · have hcb : decide (n > 256) = false := by simpa using h256
    have hR0 : Hid (listOf n ans = qOf ans (listT n.toNat)) := by show _ = _; unfold listOf; rw [if_neg h256]
    obtain ⟨w3, hw3⟩ : ∃ w3, w3 = W.alloc (.cells #[.slice none 0 0] 22) := ⟨_, rfl⟩
    have hC3 : Blk w3 (w.heap.size + 1 + 1) 22 #[.slice none 0 0] := by rw [hw3]; exact Blk.new W _ _ _ (by omega)
    have hcd3 : CandAt w3 (w.heap.size + 1 + 1) (fun b => b < w3.heap.size) [] := ⟨none, 0, hC3, Rd.nil_ _ _, by simp⟩
    have hN3 : Blk w3 w.heap.size 3 #[.int .i64 n] := by rw [hw3]; exact hbN.alloc _
    have hB3 : Blk w3 (w.heap.size + 1) 34 #[.bool false, .slice none 0 0, .slice none 0 0, .slice none 0 0] := by rw [hw3]; exact hbQ.alloc _
    have hF3 : Fr [] w w3 := by rw [hw3]; exact hfW.alloc _
    have hz3 : w3.heap.size = w.heap.size + 3 := by rw [hw3]; simp; omega
    have HW3 : Hid (((w.alloc (.cells #[.int .i64 n] 3)).alloc (.cells #[.bool false, .slice none 0 0, .slice none 0 0, .slice none 0 0] 34)).alloc (.cells #[.slice none 0 0] 22) = w3) := by show _ = _; rw [hw3, hW]
    clear hw3 hW
    have hdr := hd.fr0 hF3
    go_enter Tryd.func25, Tryd.ntmps25
    go_wp2_with fail
    rw [HW3.out]
    by_cases h4 : 4096 < ans.length
    · have hR : Hid (listOf n ans = (qNone, 3)) := by show _ = _; rw [hR0.out]; unfold qOf; rw [if_pos h4]
      go_wp2_with fail
      refine (run_limit _ D d ans _ hdr h4).mono ?_
      rintro e w5 ⟨rfl, hf5⟩
      obtain ⟨A5, c5, hb5, hr5, _⟩ := hcd3.fr0 hf5
      have k5 := hb5.cell 0 rfl
      have hB5 := hB3.fr hf5 (by simp)
      have hF5 := hF3.trans hf5
      go_wp2_with fail
      refine (quest_any none A5 0 c5 [] (([] : List Int)) false 3 _ (Rd.nil_ _ _) hr5 (by simp) w.heap.size hF5.size (Nw.none_ _)).mono ?_
      rintro e w6 ⟨vq, rfl, hf6, A1, a1, B1, b1, C1, c1, rfl, hq1, hq2, hq3⟩
      have hB6 := hB5.fr hf6 (by simp)
      have qc0 := hB6.cell 0 rfl
      have qc1 := hB6.cell 1 rfl
      have qc2 := hB6.cell 2 rfl
      have qc3 := hB6.cell 3 rfl
      have qd0 := hB6.frozen 0
      have qd1 := hB6.frozen 1
      have qd2 := hB6.frozen 2
      have qd3 := hB6.frozen 3
      go_wp2
      refine bodyPost_ret (results_qst rfl _ _ (w.heap.size + 1) rfl (hB6.four _ _ _ _)) rfl ?_
      rw [hR.out, show (qNone, (3 : Int)) = questOf [] (([] : List Int)) false 3 by simp [questOf]]
      exact qstF_ret (by omega) (hF5.trans hf6) hB6 hq1 hq2 hq3
    · obtain ⟨full, hful⟩ : ∃ f, (listT n.toNat).go (askS ans) (0, []) = f := ⟨_, rfl⟩
      have hR : Hid (listOf n ans = finT ans full) := by show _ = _; rw [hR0.out, qOf_fin h4, hful]
      have hdo : ∀ w1, AtDo w3 w1 ans → Calls Tryd.prog 72 (#[.pointer (some ⟨w3.heap.size + 1 + 1, 0, none⟩)] ++ #[.pointer (some ⟨w.heap.size, 0, none⟩), .pointer (some ⟨w.heap.size + 1 + 1, 0, none⟩)]) w1
          (SetDo w1 (w3.heap.size + 1 + 1) (w3.heap.size + 1) (w.heap.size + 1 + 1) w3.heap.size (w3.heap.size + 3) ans ((listT n.toNat).go (askS ans) (0, []))) := fun w1 hat => by
        have hz := hat.size
        rw [← hz]
        have hb1 := hat.fr.size
        exact listdo_any (w3.heap.size + 1 + 1) (w3.heap.size + 1) w.heap.size (w.heap.size + 1 + 1) w3.heap.size ans w w1 n (hF3.trans hat.fr) htab (by omega) (by omega) (by omega) (by omega) (by omega) (by omega) (by omega) (by omega) hat.sk (hN3.fr hat.fr (by simp)) (hC3.fr hat.fr (by simp))
      have hpass : ∀ er kept pass u kn, full = .inr ((er, kept, pass), (u, kn)) → pass = [] := fun er kept pass u kn he => by
        rw [← hful] at he
        exact Tr.ends_go (P := fun r : Res => r.2.2 = []) _ _ (listT_pass n.toNat) he
      rw [hful] at hdo
      have HP := Lib.hid hpass
      have h4' : ans.length ≤ 4096 := by omega
      have hS : ∀ x ∈ [(w.heap.size + 1 + 1)], x < w3.heap.size := by simp; omega
      clear hful h4 hpass hR0
      rcases full with q | ⟨⟨er, kept, pass⟩, u, kn⟩
      · go_wp2_with fail
        refine (run_ask w3 D d ans 72 _ _ hS _ q hdr h4' enter_list hdo).mono ?_
        rintro e w5 ⟨A3, c3, rfl, hr3, hf5, hnw, wd, ⟨cd, hcd, hcdl⟩, hfd⟩
        clear hdo
        have hcd5 := hcd.fr hfd (by simp; omega) (by intro x hx; simp at hx; subst hx; exact .inl (out_s (Nat.le_refl _) (by omega)))
        obtain ⟨A6, c6, hbk6, hcr6, _⟩ := hcd5
        have k5 := hbk6.cell 0 rfl
        have hB5 := hB3.fr hf5 (by simp)
        have hf05 : Fr [] w w5 := hF3.trans2 hf5 (by simp; omega)
        go_wp2_with fail
        refine (quest_any A3 A6 c3 c6 q cd false 0 _ hr3 hcr6 (by omega) w.heap.size hf05.size (hnw.mono hF3.size)).mono ?_
        rintro e w6 ⟨vq, rfl, hf6, A1, a1, B1, b1, C1, c1, rfl, hq1, hq2, hq3⟩
        have hB6 := hB5.fr hf6 (by simp)
        have qc0 := hB6.cell 0 rfl
        have qc1 := hB6.cell 1 rfl
        have qc2 := hB6.cell 2 rfl
        have qc3 := hB6.cell 3 rfl
        have qd0 := hB6.frozen 0
        have qd1 := hB6.frozen 1
        have qd2 := hB6.frozen 2
        have qd3 := hB6.frozen 3
        go_wp2
        refine bodyPost_ret (results_qst rfl _ _ (w.heap.size + 1) rfl (hB6.four _ _ _ _)) rfl ?_
        rw [hR.out, fin_ask (cd := cd) rfl]
        exact qstF_ret (by omega) (hf05.trans hf6) hB6 hq1 hq2 hq3
      · obtain rfl := HP.out er kept pass u kn rfl
        clear HP
        go_wp2_with fail
        refine (run_end w3 D d ans 72 _ _ hS _ er u hdr h4' enter_list hdo).mono ?_
        rintro e w5 ⟨rfl, hf5, wd, ⟨cd, hcd, hcdl, hck⟩, hfd⟩
        clear hdo
        have hcd5 := hcd.fr hfd (by simp; omega) (by intro x hx; simp at hx; subst hx; exact .inl (out_s (Nat.le_refl _) (by omega)))
        obtain ⟨A6, c6, hbk6, hcr6, _⟩ := hcd5
        have k5 := hbk6.cell 0 rfl
        have hB5 := hB3.fr hf5 (by simp)
        have hf05 : Fr [] w w5 := hF3.trans2 hf5 (by simp; omega)
        have HFE := Lib.hid (fin_end (ans := ans) (kn := kn) (u := u) rfl hck)
        clear hck
        generalize hdn : decide (er = 0 ∧ ans.length ≤ u) = dn at *
        generalize her : (if er ≠ 0 then er else if u < ans.length then 8 else 0) = er2 at *
        have HD := Lib.hid hdn
        have HE := Lib.hid her
        clear hdn her
        go_wp2_with fail
        refine (quest_any none A6 0 c6 [] cd dn er2 _ (Rd.nil_ _ _) hcr6 (by omega) w.heap.size hf05.size (Nw.none_ _)).mono ?_
        rintro e w6 ⟨vq, rfl, hf6, A1, a1, B1, b1, C1, c1, rfl, hq1, hq2, hq3⟩
        have hB6 := hB5.fr hf6 (by simp)
        have qc0 := hB6.cell 0 rfl
        have qc1 := hB6.cell 1 rfl
        have qc2 := hB6.cell 2 rfl
        have qc3 := hB6.cell 3 rfl
        have qd0 := hB6.frozen 0
        have qd1 := hB6.frozen 1
        have qd2 := hB6.frozen 2
        have qd3 := hB6.frozen 3
        go_wp2
        refine bodyPost_ret (results_qst rfl _ _ (w.heap.size + 1) rfl (hB6.four _ _ _ _)) rfl ?_
        rw [hR.out, HFE.out]
        exact qstF_ret (by omega) (hf05.trans hf6) hB6 hq1 hq2 hq3
end Go.Proofs.YtjpbmbonccenfaaDoor

/- List of the reference: one granularity. -/
namespace Go.Proofs.YtjpbmbonccenfaaDoor
open Go Go.RowKit
set_option linter.unusedVariables false

/-- Rows of a list of lists that a search keeps: none of the play's own blocks. -/
structure RowsK (B bp : Nat) (W : World) (SA : Option Addr) (sc : Nat) (rows : List (Option Addr × Nat × Nat)) (L : List (List Int)) : Prop where
  rl : rows.length = L.length
  rd : Rd W encSl SA sc rows
  off : 0 < L.length → ∀ a, SA = some a → Off W bp a.block
  row : ∀ (j : Nat) (l : List Int), L[j]? = some l → ∃ A c, rows[j]? = some (A, l.length, c) ∧ Rd W (.int .i64) A c l ∧ Stay B W A
section
variable {B bp sc used : Nat} {W W' W0 : World} {SA : Option Addr} {rows : List (Option Addr × Nat × Nat)} {L : List (List Int)} {ans want : List Int} {kn : Kn} {st : Bool}
theorem Rd.keptB {α : Type} {enc : α → Value} {A : Option Addr} {c : Nat} {xs : List α} (h : Rd W enc A c xs) (hb : 0 < xs.length → ∀ a, A = some a → W'.heap[a.block]? = W.heap[a.block]?) : Rd W' enc A c xs :=
  ⟨h.le, h.cap, fun h0 => by
    obtain ⟨b, off, rfl, hc⟩ := h.at0 h0
    exact ⟨b, off, rfl, fun k x hx => (World.cell?_of_block (a := ⟨b, off + k, none⟩) (hb h0 ⟨b, off, none⟩ rfl)).trans (hc k x hx)⟩⟩
theorem RowsK.frk (h : RowsK B bp W SA sc rows L) (hf : FrP B W W') (hk : Kept W W' bp) : RowsK B bp W' SA sc rows L :=
  ⟨h.rl, h.rd.keptB fun h0 a ha => (hk _ (h.off (by rw [← h.rl]; exact h0) a ha)).2, fun h0 a ha => (hk _ (h.off h0 a ha)).1, fun j l hl => by
    obtain ⟨A, c, h1, h2, h3⟩ := h.row j l hl
    exact ⟨A, c, h1, h2.frp h3 hf, h3.frp hf⟩⟩
theorem RowsK.fr0 (h : RowsK B bp W SA sc rows L) (hf : Fr [] W W') : RowsK B bp W' SA sc rows L := h.frk (FrP.of_fr0 hf) (Kept.fr0 hf)
theorem RowsK.of (hp : PKn B W0 bp ans used kn st want) (hf : Fr [] W0 W) (hr : Rows W W0.heap.size (.slice SA L.length sc) L) : ∃ rows, RowsK B bp W SA sc rows L := by
  obtain ⟨SA', sc', rows, hv, hrl, hown, hrow⟩ := hr
  injection hv with e1 _ e3
  subst e1 e3
  obtain ⟨A, c, S, T, D, d, rw0, hh, hra, hna, hrD, hsD, hoS, hoT, hel⟩ := hp.ex
  have hbl := hh.lt
  refine ⟨rows, hrl, ?_, fun h0 a ha => ?_, fun j l hl => ?_⟩
  · have := own_rd (xs := rows) (enc := encSl) hown rfl rfl
    exact this
  · subst ha
    have hlt := hown.lt a.block rfl
    refine ⟨_, _, _, _, _, _, hh.fr hf (by simp), hlt.2, by omega, fun hk => ?_, fun hk => ?_⟩
    · have := hoS.lt _ hk; omega
    · have := hoT.lt _ hk; omega
  · obtain ⟨A, c, h1, h2⟩ := hrow j l hl
    exact ⟨A, c, h1, (Rd.of_own h2).2, Stay.own h2⟩
theorem RowsK.at_ (h : RowsK B bp W SA sc rows L) {k : Nat} {l : List Int} (hl : L[k]? = some l) : ∃ b o A c, SA = some ⟨b, o, none⟩ ∧ W.cell? ⟨b, o + k, none⟩ = some (.slice A l.length c) ∧ Rd W (.int .i64) A c l ∧ Stay B W A := by
  obtain ⟨A, c, h1, h2, h3⟩ := h.row k l hl
  have h0 : 0 < rows.length := Nat.lt_of_le_of_lt (Nat.zero_le _) (List.getElem?_eq_some_iff.1 h1).1
  obtain ⟨b, o, hA, hc⟩ := h.rd.at0 h0
  exact ⟨b, o, A, c, hA, hc k _ h1, h2, h3⟩
end

/-- What a round of one granularity comes to. -/
def StepPost {α : Type} (B : Nat) (w : World) (bp : Nat) (ans c : List Int) (g : Nat) (f1 f2 : List Int → Tr (List Int) Int α) (d : Tr (List Int) Int α) (full : List Int ⊕ (α × (Nat × Kn))) (e : Ending) (w' : World) : Prop :=
  FrP B w w' ∧ ∃ u kn, Hid (kn.length = u) ∧ u ≤ ans.length ∧
    ((∃ q, e = .returned (.tuple #[.slice none 0 0, .int .i64 0, .bool false]) ∧ PKn B w' bp ans u kn true q ∧ Hid (full = .inl q)) ∨
     (∃ k x A cx, k < cutN c.length g ∧ Hid ((chunksOf c g)[k]? = some x) ∧ e = .returned (.tuple #[.slice A x.length cx, .int .i64 2, .bool true]) ∧ PKn B w' bp ans u kn false [] ∧ Rd w' (.int .i64) A cx x ∧ Stay B w' A ∧ Hid (full = (f1 x).go (askS ans) (u, kn))) ∨
     (∃ k x A cx, k < cutN c.length g ∧ Hid (((chunksOf c g).map (minus c))[k]? = some x) ∧ e = .returned (.tuple #[.slice A x.length cx, .int .i64 (max (g - 1) 2 : Nat), .bool true]) ∧ PKn B w' bp ans u kn false [] ∧ Rd w' (.int .i64) A cx x ∧ Stay B w' A ∧ Hid (full = (f2 x).go (askS ans) (u, kn))) ∨
     (e = .returned (.tuple #[.slice none 0 0, .int .i64 0, .bool false]) ∧ PKn B w' bp ans u kn false [] ∧ Hid (full = d.go (askS ans) (u, kn))))

/-- Between two rounds of a scan. -/
def RScan {α : Type} (B : Nat) (w : World) (bp : Nat) (ans : List Int) (full : List Int ⊕ (α × (Nat × Kn))) (fT : List Int → Tr (List Int) Int α) (dT : Tr (List Int) Int α) (qs : List (List Int)) (SA : Option Addr) (sc : Nat) (rows : List (Option Addr × Nat × Nat)) (L : List (List Int)) (i : Value) (wr : World) : Prop :=
  ∃ (k used : Nat) (kn : Kn), k ≤ L.length ∧ i = .int .i64 k ∧ FrP B w wr ∧ Hid (kn.length = used) ∧ used ≤ ans.length ∧ PKn B wr bp ans used kn false [] ∧ RowsK B bp wr SA sc rows L ∧ Hid (full = (scanT fT dT (qs.drop k)).go (askS ans) (used, kn))

set_option maxRecDepth 100000 in
set_option maxHeartbeats 3200000 in
theorem refstep_any {α : Type} (B bp : Nat) (ans : List Int) (used : Nat) (kn : Kn) (C : Option Addr) (cc : Nat) (c : List Int) (g : Nat) (w : World) (h : PKn B w bp ans used kn false []) (hC : Rd w (.int .i64) C cc c) (hCs : Stay B w C) (hlen : c.length ≤ 256) (hg : 2 ≤ g) (hg2 : g ≤ 256)
    (hkl : kn.length = used) (hu : used ≤ ans.length) (hal : ans.length ≤ 4096) (f1 f2 : List Int → Tr (List Int) Int α) (d : Tr (List Int) Int α) (full : List Int ⊕ (α × (Nat × Kn)))
    (hfu : full = (scanT f1 (scanT f2 d ((chunksOf c g).map (minus c))) (chunksOf c g)).go (askS ans) (used, kn)) :
    Calls Tryd.prog 79 #[.pointer (some ⟨bp, 0, none⟩), .slice C c.length cc, .int .i64 g] w (StepPost B w bp ans c g f1 f2 d full) := by
  have HFU := Lib.hid hfu
  have hLl := chunksOf_length c (g : Int)
  have hNm := cutN_le c.length (g : Int)
  have HRG := Lib.hid (fun k hk => rest_get (c := c) (g := g) (k := k) hk)
  have HCG := Lib.hid (fun k hk => chunk_get (c := c) (g := g) (k := k) hk)
  have HML : Hid (((chunksOf c (g : Int)).map (minus c)).length = (chunksOf c (g : Int)).length) := by show _ = _; simp
  have HMA : Hid (∀ (k : Nat) l, (chunksOf c (g : Int))[k]? = some l → ((chunksOf c (g : Int)).map (minus c))[k]? = some (minus c l)) := fun k l hl => by rw [List.getElem?_map, hl]; rfl
  have HCL : Hid (∀ (k : Nat) l, (chunksOf c (g : Int))[k]? = some l → l.length ≤ 256) := fun k l hl => by
    have := (chunksOf_sub (List.mem_of_getElem? hl)).length_le
    omega
  have HKL := Lib.hid hkl
  clear hfu hkl
  go_enter Tryd.func79, Tryd.ntmps79
  go_wp2_with fail
  refine (refChunks_any C cc c g w hC (by omega)).mono ?_
  rintro e w1 ⟨v1, rfl, hf1, hrows⟩
  obtain ⟨SA, sc, rws, rfl, hx⟩ := id hrows
  clear hx rws
  obtain ⟨rows, hK⟩ := RowsK.of h hf1 hrows
  have hp1 := h.fr0 hf1
  have hC1 := hC.fr0 hf1
  have hs1 := hCs.frp (FrP.of_fr0 hf1)
  have hF1 : FrP B w w1 := FrP.of_fr0 hf1
  generalize hLc : chunksOf c (g : Int) = L at *
  generalize hL2 : L.map (minus c) = L2 at *
  generalize hcn : cutN c.length (g : Int) = N at *
  have HL2 := Lib.hid hL2
  have HLC := Lib.hid hLc
  have HCN := Lib.hid hcn
  have HC := Lib.hid hC
  have HS := Lib.hid hCs
  have hl1 := Nat.le_of_eq hLl
  have hl2 := Nat.le_of_eq hLl.symm
  clear hrows hf1 hLc hL2 hcn h hC hCs hC1 hs1 hLl
  generalize hd1 : scanT f2 d L2 = d1 at *
  have HD1 := Lib.hid hd1
  clear hd1
  go_wp2_with fail
  go_loopw [10] (fun i wr => RScan B w bp ans full f1 d1 L SA sc rows L i wr) (fun i _ => L.length - (intOf i).toNat)
  case atStart => exact ⟨0, used, kn, Nat.zero_le _, rfl, hF1, HKL, hu, hp1, hK, HFU⟩
  case round =>
    clear hF1 hp1 hK HFU hu HKL
    obtain ⟨k, u, kk, hk, rfl, hF, hkk, hu, hp, hK, hfu⟩ := hrel
    by_cases hlt : k < L.length
    · obtain ⟨l, hl⟩ : ∃ l, L[k]? = some l := ⟨L[k], List.getElem?_eq_getElem hlt⟩
      obtain ⟨b0, o0, A5, c5, rfl, hcell, hr5, hs5⟩ := hK.at_ hl
      have hll := HCL.out k l hl
      have hkN : k < N := by omega
      have hle := hK.rd.le
      have hrl := Nat.le_of_eq hK.rl.symm
      have hcp := hK.rd.capBound
      go_wp2_with fail
      refine (ask_off B bp ans u kk A5 c5 l _ hp hr5 hs5 (by omega) (by rw [hkk.out]; omega)).mono ?_
      rintro e w5 ⟨h5, hkept, _⟩
      unfold AskPost at h5
      rcases hq : askV ans u kk l with _ | ⟨v, u2, kn2⟩
      · rw [hq] at h5
        obtain ⟨rfl, hf5, hp5⟩ := h5
        have hR : Hid (full = .inl l) := by show _ = _; rw [hfu.out, scan_none hl hq]
        have s4 := hp5.stopCell
        clear hfu hq
        go_wp2_with fail
        go_ret3
        exact ⟨hF.trans hf5, u, kk, hkk, hu, .inl ⟨l, rfl, hp5, hR⟩⟩
      · rw [hq] at h5
        obtain ⟨rfl, hf5, hp5⟩ := h5
        have hfl : full = (if v = 2 then f1 l else scanT f1 d1 (L.drop (k + 1))).go (askS ans) (u2, kn2) := by rw [hfu.out, scan_some hl hq]
        obtain ⟨hkl2, hul2⟩ := askV_len hq hkk.out hu
        have HKL2 := Lib.hid hkl2
        have s4 := hp5.stopCell
        have hK5 := hK.frk hf5 hkept
        have hF5 := hF.trans hf5
        have HL := Lib.hid hl
        obtain ⟨b0', o0', A6, c6, he, hcell5, hr6, hs6⟩ := hK5.at_ hl
        injection he with he
        injection he with e1 e2
        subst e1 e2
        clear hfu hq hl hkl2 hp hF hK hr5 hs5 hf5 hkept hcell
        by_cases hv : v = 2
        · have hb : (v == 2) = true := by simp [hv]
          rw [if_pos hv] at hfl
          have HFL := Lib.hid hfl
          clear hfl hv
          go_wp2_with fail
          go_ret3
          exact ⟨hF5, u2, kn2, HKL2, hul2, .inr (.inl ⟨k, l, A6, c6, by rw [HCN.out]; exact hkN, by rw [HLC.out]; exact HL, rfl, hp5, hr6, hs6, HFL⟩)⟩
        · have hb : (v == 2) = false := by simpa using hv
          rw [if_neg hv] at hfl
          have HFL := Lib.hid hfl
          clear hfl hv
          go_wp2_with fail
          go_roundw
          case rel => exact ⟨k + 1, u2, kn2, by omega, by go_num, hF5, HKL2, hul2, hp5, hK5, HFL⟩
          case measure => simp [intOf]; omega
    · have hfu2 : full = d1.go (askS ans) (u, kk) := by rw [hfu.out, scan_done (by omega)]
      have HF2 : Hid (full = (scanT f2 d (L2.drop 0)).go (askS ans) (u, kk)) := by show _ = _; rw [hfu2, ← HD1.out]; rfl
      clear hfu hfu2 HD1
      go_wp2_with fail
      go_loopw [12] (fun i wr => RScan B w bp ans full f2 d L2 SA sc rows L i wr) (fun i _ => L.length - (intOf i).toNat)
      case atStart => exact ⟨0, u, kk, Nat.zero_le _, rfl, hF, hkk, hu, hp, hK, HF2⟩
      case round =>
        clear hF hp hK HF2 hu hkk hk hlt
        obtain ⟨k, u, kk, hk, rfl, hF, hkk, hu, hp, hK, hfu⟩ := hrel
        have hcr := HC.out.frp HS.out hF
        by_cases hlt : k < L.length
        · obtain ⟨l, hl⟩ : ∃ l, L[k]? = some l := ⟨L[k], List.getElem?_eq_getElem hlt⟩
          obtain ⟨b0, o0, A5, c5, rfl, hcell, hr5, hs5⟩ := hK.at_ hl
          have hll := HCL.out k l hl
          have hl2 := HMA.out k l hl
          have hkN : k < N := by omega
          have hle := hK.rd.le
          have hrl := Nat.le_of_eq hK.rl.symm
          have hcp := hK.rd.capBound
          have hml := minus_le c l
          go_wp2_with fail
          refine (Minus_any C A5 cc c5 c l _ hcr hr5 (by omega)).mono ?_
          simp only [RetOwn, List.length_map]
          rintro e w4 ⟨A4, c4, rfl, hf4, ho4⟩
          generalize minus c l = x at *
          have hr4 : Rd w4 (.int .i64) A4 c4 x := (Rd.of_own ho4).2
          have hs4 : Stay B w4 A4 := Stay.own ho4
          have hp4 := hp.fr0 hf4
          have hK4 := hK.fr0 hf4
          have hF4 := hF.trans (FrP.of_fr0 hf4)
          clear hcell hr5 hs5 hp hK hF hf4 ho4 hcr
          go_wp2_with fail
          refine (ask_off B bp ans u kk A4 c4 x _ hp4 hr4 hs4 (by omega) (by rw [hkk.out]; omega)).mono ?_
          rintro e w5 ⟨h5, hkept, _⟩
          unfold AskPost at h5
          rcases hq : askV ans u kk x with _ | ⟨v, u2, kn2⟩
          · rw [hq] at h5
            obtain ⟨rfl, hf5, hp5⟩ := h5
            have hR : Hid (full = .inl x) := by show _ = _; rw [hfu.out, scan_none hl2 hq]
            have s4 := hp5.stopCell
            clear hfu hq
            go_wp2_with fail
            go_ret3
            exact ⟨hF4.trans hf5, u, kk, hkk, hu, .inl ⟨x, rfl, hp5, hR⟩⟩
          · rw [hq] at h5
            obtain ⟨rfl, hf5, hp5⟩ := h5
            have hfl : full = (if v = 2 then f2 x else scanT f2 d (L2.drop (k + 1))).go (askS ans) (u2, kn2) := by rw [hfu.out, scan_some hl2 hq]
            obtain ⟨hkl2, hul2⟩ := askV_len hq hkk.out hu
            have HKL2 := Lib.hid hkl2
            have s4 := hp5.stopCell
            have hK5 := hK4.frk hf5 hkept
            have hF5 := hF4.trans hf5
            have HL := Lib.hid hl2
            have hr5 := hr4.frp hs4 hf5
            have hs5 := hs4.frp hf5
            clear hfu hq hl hl2 hkl2 hp4 hF4 hK4 hr4 hs4 hf5 hkept
            by_cases hv : v = 2
            · have hb : (v == 2) = true := by simp [hv]
              rw [if_pos hv] at hfl
              have HFL := Lib.hid hfl
              clear hfl hv
              have hmx : max ((g : Int) - 1) 2 = ((max (g - 1) 2 : Nat) : Int) := by omega
              have hw1 : IntKind.i64.wrap ((g : Int) - 1) = (g : Int) - 1 := IntWalk.i64_in _ (by omega)
              go_wp2_with fail
              go_ret3
              exact ⟨hF5, u2, kn2, HKL2, hul2, .inr (.inr (.inl ⟨k, x, A4, c4, by rw [HCN.out]; exact hkN, by rw [HLC.out, HL2.out]; exact HL, rfl, hp5, hr5, hs5, HFL⟩))⟩
            · have hb : (v == 2) = false := by simpa using hv
              rw [if_neg hv] at hfl
              have HFL := Lib.hid hfl
              clear hfl hv
              go_wp2_with fail
              go_roundw
              case rel => exact ⟨k + 1, u2, kn2, by omega, by go_num, hF5, HKL2, hul2, hp5, hK5, HFL⟩
              case measure => simp [intOf]; omega
        · have hfu2 : full = d.go (askS ans) (u, kk) := by rw [hfu.out, scan_done (by rw [HML.out]; omega)]
          have HFU2 := Lib.hid hfu2
          clear hfu hfu2
          go_wp2_with fail
          go_ret3
          exact ⟨hF, u, kk, hkk, hu, .inr (.inr (.inr ⟨rfl, hp, HFU2⟩))⟩
end Go.Proofs.YtjpbmbonccenfaaDoor

/- Counted: the steps of its loops; the levels in memory. -/
namespace Go.Proofs.YtjpbmbonccenfaaDoor
open Go Go.RowKit
set_option linter.unusedVariables false

section
variable {s last n k l : Nat} {lev kept g : List Int} {x low : Int}
theorem low_next (h : Hid (kept[k]? = some x)) : lowOf last lev (kept.take (k + 1)) = min (lowOf last lev (kept.take k)) (levOf lev x) := by
  unfold lowOf
  rw [List.take_add_one, h.out]
  simp [List.foldl_append]
theorem low_zero : lowOf last lev (kept.take 0) = last + 1 := rfl
theorem low_all (h : kept.length ≤ k) : lowOf last lev (kept.take k) = lowOf last lev kept := by rw [List.take_of_length_le h]
theorem grp_zero : grpOf s lev (kept.take 0) low = [] := by simp [grpOf]
theorem filt_next {p : Int → Bool} (h : Hid (kept[k]? = some x)) : (kept.take (k + 1)).filter p = (kept.take k).filter p ++ (if p x then [x] else []) := by
  rw [List.take_add_one, h.out]
  simp [List.filter_append, List.filter_cons]
theorem grp_hit (h : Hid (kept[k]? = some x)) (he : levOf lev x = low) (hl : (grpOf s lev (kept.take k) low).length < szOf s low.toNat) : grpOf s lev (kept.take (k + 1)) low = grpOf s lev (kept.take k) low ++ [x] := by
  unfold grpOf at *
  rw [filt_next h, if_pos (by simpa using he)]
  rw [List.length_take] at hl
  generalize (kept.take k).filter (fun x => levOf lev x == low) = F at *
  rw [List.take_of_length_le (l := F) (by omega), List.take_of_length_le (by simp; omega)]
theorem grp_miss (h : Hid (kept[k]? = some x)) (he : ¬ levOf lev x = low) : grpOf s lev (kept.take (k + 1)) low = grpOf s lev (kept.take k) low := by
  unfold grpOf
  rw [filt_next h, if_neg (by simpa using he), List.append_nil]
theorem grp_over (h : Hid (kept[k]? = some x)) (hl : ¬ (grpOf s lev (kept.take k) low).length < szOf s low.toNat) : grpOf s lev (kept.take (k + 1)) low = grpOf s lev (kept.take k) low := by
  unfold grpOf at *
  rw [filt_next h]
  rw [List.length_take] at hl
  exact List.take_append_of_le_length (by omega)
theorem grp_full (hl : ¬ (grpOf s lev (kept.take k) low).length < szOf s low.toNat) : grpOf s lev (kept.take k) low = grpOf s lev kept low := by
  unfold grpOf at *
  rw [List.length_take] at hl
  have e : kept.filter (fun x => levOf lev x == low) = (kept.take k).filter (fun x => levOf lev x == low) ++ (kept.drop k).filter (fun x => levOf lev x == low) := by
    rw [← List.filter_append, List.take_append_drop]
  rw [e]
  exact (List.take_append_of_le_length (by omega)).symm
theorem grp_all (h : kept.length ≤ k) : grpOf s lev (kept.take k) low = grpOf s lev kept low := by rw [List.take_of_length_le h]
theorem bump_next (h : Hid (g[k]? = some x)) : bumpL lev (g.take (k + 1)) = (bumpL lev (g.take k)).set x.toNat (levOf (bumpL lev (g.take k)) x + 1) := by
  unfold bumpL
  rw [List.take_add_one, h.out]
  simp [List.foldl_append]
theorem cap_next (h : Hid (g[k]? = some x)) : capL last lev (g.take (k + 1)) = (capL last lev (g.take k)).set x.toNat (min (levOf (capL last lev (g.take k)) x) last) := by
  unfold capL
  rw [List.take_add_one, h.out]
  simp [List.foldl_append]
theorem bump_zero : bumpL lev (g.take 0) = lev := rfl
theorem cap_zero : capL last lev (g.take 0) = lev := rfl
theorem bump_all (h : g.length ≤ k) : bumpL lev (g.take k) = bumpL lev g := by rw [List.take_of_length_le h]
theorem cap_all (h : g.length ≤ k) : capL last lev (g.take k) = capL last lev g := by rw [List.take_of_length_le h]
theorem sz_gt (hs : 1 ≤ s) (hl : l ≤ lastOf s) : 1 < szOf s l ↔ l < lastOf s := by
  constructor
  · intro h
    rcases Nat.lt_or_ge l (lastOf s) with h1 | h1
    · exact h1
    · obtain rfl : l = lastOf s := by omega
      rw [sz_last hs] at h; omega
  · intro h
    have h1 : 2 ^ lastOf s ≤ s := Nat.log2_self_le (by omega)
    have h2 : 2 ^ (l + 1) ≤ 2 ^ lastOf s := Nat.pow_le_pow_right (by omega) h
    have hp : 0 < 2 ^ l := Nat.pow_pos (by omega)
    rw [Nat.pow_succ] at h2
    have : 2 ≤ s / 2 ^ l := (Nat.le_div_iff_mul_le hp).2 (by omega)
    unfold szOf
    omega
end

/-- The levels lie in a block. -/
def LevAt (W : World) (g : Nat) (lev : List Int) : Prop := 0 < lev.length → Blk W g 3 (lev.map (Value.int .i64)).toArray
section
variable {W W' : World} {g : Nat} {lev : List Int} {x : Nat} {S : List Nat} {v : Int} {B : Nat}
theorem LevAt.fr (h : LevAt W g lev) (hf : Fr S W W') (hn : g ∉ S) : LevAt W' g lev := fun h0 => (h h0).fr hf hn
theorem LevAt.frp (h : LevAt W g lev) (hf : FrP B W W') : LevAt W' g lev := fun h0 => hf.blk (h h0) (.inr (by decide))
theorem LevAt.cell (h : LevAt W g lev) (hx : x < lev.length) : W.cell? ⟨g, x, none⟩ = some (.int .i64 (levOf lev x)) := by
  refine (h (by omega)).cell x ?_
  unfold levOf
  simp [hx]
theorem LevAt.frozen (h : LevAt W g lev) (hx : x < lev.length) : W.frozen? ⟨g, x, none⟩ = false := (h (by omega)).frozen x
theorem LevAt.set (h : LevAt W g lev) (hx : x < lev.length) (v : Int) : LevAt (W.setCell ⟨g, x, none⟩ (.int .i64 v)) g (lev.set x v) := fun _ => by
  have := (h (by omega)).set_ x (.int .i64 v)
  simpa [List.map_set] using this
end

section
variable {B bp used g n : Nat} {w w' : World} {ans want : List Int} {kn : Kn} {st : Bool} {cs : Array Value}
/-- What is new is no row's of what has been asked. -/
theorem RowsOff.new (hp : PKn B w bp ans used kn st want) (hg : w.heap.size ≤ g) : RowsOff w bp g := by
  obtain ⟨A, c, S, T, D, d, rows, hh, hr, hna, hrD, hsD, hoS, hoT, hel⟩ := hp.ex
  refine RowsOff.of hh hoS fun k a n' c' hk => ?_
  have hl : rows.length = kn.length := by have := hoS.1; omega
  have hkl : k < kn.length := by have := (List.getElem?_eq_some_iff.1 hk).1; omega
  obtain ⟨A', c'', h1, h2, h3⟩ := hel k kn[k] (List.getElem?_eq_getElem hkl)
  rw [hk] at h1
  simp [slVal] at h1
  obtain ⟨rfl, _, _⟩ := h1
  have hb := hp.base
  have hbl := hh.lt
  rcases h3 a rfl with h4 | ⟨cs, fz, h4⟩
  · omega
  · have := lt_of_block h4; omega
theorem RowsOff.fr0 (h : RowsOff w bp g) (hp : PKn B w bp ans used kn st want) (hf : Fr [] w w') : RowsOff w' bp g := by
  obtain ⟨A, c, S, T, D, d, rows, hh, hr, hna, hrD, hsD, hoS, hoT, hel⟩ := hp.ex
  exact RowsOff.of (hh.fr hf (by simp)) (own_fr hoS hf (by simp)) (h.at_rows hh hoS)
theorem IntTy.set {k i : Nat} {v : Value} (hb : Blk w g 3 cs) (h : IntTy w k) : IntTy (w.setCell ⟨g, i, none⟩ v) k := by
  by_cases hk : k = g
  · subst hk
    exact ⟨_, _, hb.set_ i v⟩
  · obtain ⟨cs', fz, h1⟩ := h
    exact ⟨cs', fz, (Below.heap_setCell w ⟨g, i, none⟩ v k hk).trans h1⟩
theorem IntTy.fr {S : List Nat} {k : Nat} (h : IntTy w k) (hf : Fr S w w') (hn : k ∉ S) : IntTy w' k := by
  obtain ⟨cs, fz, h1⟩ := h
  exact ⟨cs, fz, hf.heap h1 hn⟩
theorem Stay.fr {S : List Nat} {A : Option Addr} (h : Stay B w A) (hf : Fr S w w') (hn : ∀ a, A = some a → a.block ∉ S) : Stay B w' A := fun x hx => (h x hx).imp id fun hi => hi.fr hf (hn x hx)
/-- A store into a block of numbers that is none of the play's. -/
theorem PKn.put {i : Nat} {v : Value} (h : PKn B w bp ans used kn false []) (hb : Blk w g 3 cs) (hr : RowsOff w bp g) (hB : B ≤ g) : PKn B (w.setCell ⟨g, i, none⟩ v) bp ans used kn false [] ∧ RowsOff (w.setCell ⟨g, i, none⟩ v) bp g := by
  obtain ⟨A, c, S, T, D, d, rows, hh, hra, hna, hrD, hsD, hoS, hoT, hel⟩ := h.ex
  have hf : Fr [g] w (w.setCell ⟨g, i, none⟩ v) := (Fr.refl _ w).setCell (.inl (by simp)) _
  have hne : bp ≠ g := by
    rintro rfl
    have he := Option.some.inj ((show w.heap[bp]? = _ from hh).symm.trans hb)
    injection he with _ he
    revert he
    decide
  have hoS' := own_fr hoS hf (fun k hk => by simpa using own_ne_blk hoS hb (by decide) k hk)
  have hoT' := own_fr hoT hf (fun k hk => by simpa using own_ne_blk hoT hb (by decide) k hk)
  have hh' := hh.fr hf (by simpa using hne)
  have hst : ∀ {A : Option Addr}, Stay B w A → Stay B (w.setCell ⟨g, i, none⟩ v) A := fun hs x hx => (hs x hx).imp id fun h => h.set hb
  refine ⟨⟨⟨A, c, S, T, D, d, rows, hh', hra.fr hf (fun h0 a ha => by have := hna h0 a ha; simp; omega), hna, hrD.fr hf (by simp), hst hsD, hoS', hoT', fun k p hp => ?_⟩, h.base, h.le⟩, RowsOff.of hh' hoS' (hr.at_rows hh hoS)⟩
  obtain ⟨A', c', h1, h2, h3⟩ := hel k p hp
  refine ⟨A', c', h1, h2.fr hf (fun h0 a ha => ?_), hst h3⟩
  subst ha
  have := hr.at_rows hh hoS k a p.1.length c' (by rw [h1]; rfl)
  simpa using this
end

set_option maxHeartbeats 800000 in
theorem size_any (s k : Nat) (w : World) (hs : s ≤ 1000000) (hk : k ≤ 1000000) :
    Calls Tryd.prog 81 #[.int .i64 s, .int .i64 k] w (RetQ w (.int .i64 (szOf s k : Nat))) := by
  go_enter Tryd.func81, Tryd.ntmps81
  go_wp2
  go_loopw [0, 5] (fun v i wr => ∃ j p : Nat, j ≤ k ∧ v = .int .i64 p ∧ Hid (p = s / 2 ^ j) ∧ p ≤ s ∧ i = .int .i64 j ∧ ∃ n, wr = w.drewN n) (fun _ i _ => k - (intOf i).toNat)
  case atStart => exact ⟨0, s, Nat.zero_le _, rfl, by show _ = _; simp, Nat.le_refl _, rfl, 0, rfl⟩
  case round =>
    obtain ⟨j, p, hj, rfl, hp, hps, rfl, n, rfl⟩ := hrel
    by_cases hlt : j < k
    · have hp2 : Hid (p / 2 = s / 2 ^ (j + 1)) := by show _ = _; rw [hp.out, Nat.pow_succ, Nat.div_div_eq_div_mul]
      have e3 : (p : Int) / 2 = ((p / 2 : Nat) : Int) := by simp
      have f2 : IntKind.i64.wrap ((p : Int).tdiv 2) = ((p / 2 : Nat) : Int) := by rw [show (p : Int).tdiv 2 = (p : Int) / 2 from Int.tdiv_eq_ediv_of_nonneg (by omega), e3]; exact IntWalk.i64_in _ (by omega)
      have f2' : IntKind.i64.wrap ((p : Int) / 2) = ((p / 2 : Nat) : Int) := by rw [e3]; exact IntWalk.i64_in _ (by omega)
      clear e3
      go_wp2
      go_roundw
      case rel => exact ⟨j + 1, p / 2, by omega, by go_num, hp2, by omega, by go_num, _, rfl⟩
      case measure => simp [intOf]; omega
    · obtain rfl : j = k := by omega
      have hmx : max (p : Int) 1 = ((szOf s j : Nat) : Int) := by
        unfold szOf
        rw [← hp.out]
        omega
      go_wp2
      go_ret
      exact ⟨rfl, _, rfl⟩
end Go.Proofs.YtjpbmbonccenfaaDoor

/- Counted of the program: the function that run is handed. -/
namespace Go.Proofs.YtjpbmbonccenfaaDoor
open Go Go.RowKit
set_option linter.unusedVariables false

/-- Between two rounds. -/
def ICtInv (w1 : World) (ans : List Int) (n sN : Nat) (full : List Int ⊕ (Res × (Nat × Kn))) (s km bc g h0 : Nat) (t : Nat) (v : Value) (wr : World) : Prop :=
  ∃ (kept lev : List Int) (u : Nat) (kk : Kn), CandAt wr bc (fun b => Out h0 w1.heap.size b ∧ b ≠ g) kept ∧ kept.length ≤ 256 ∧ Hid (CInv n (lastOf sN) kept lev) ∧ Hid (cntM (lastOf sN) kept lev < t) ∧ Hid (full = (cntT sN t kept lev).go (askS ans) (u, kk)) ∧
    SK wr s km ans u kk ∧ LevAt wr g lev ∧ g < wr.heap.size ∧ Fr [s, km, bc] w1 wr

set_option maxRecDepth 100000 in
set_option maxHeartbeats 12800000 in
theorem countdo_any (s km bn bc bl bt h0 : Nat) (ans : List Int) (w0 w1 : World) (n : Int) (sN : Nat) (hw0 : Fr [] w0 w1) (htab : Tab w0) (hn : n ≤ 256) (hs1 : 1 ≤ sN) (hs2 : sN ≤ 256)
    (hB : w0.heap.size ≤ bc) (hbh : bc < h0) (hbn0 : bn < h0) (hbl0 : bl < h0) (hbt0 : bt < h0) (hnc : bn ≠ bc) (hlc : bl ≠ bc) (htc : bt ≠ bc) (hk0 : h0 < km) (hk1 : km < s) (hk2 : s < w1.heap.size) (hsk : SK w1 s km ans 0 [])
    (hbn : Blk w1 bn 3 #[.int .i64 n]) (hbc : Blk w1 bc 22 #[.slice none 0 0]) (hbl : Blk w1 bl 3 #[.int .i64 (lastOf sN)]) (hbt : Blk w1 bt 3 #[.int .i64 sN]) :
    Calls Tryd.prog 80 #[.pointer (some ⟨s, 0, none⟩), .pointer (some ⟨bn, 0, none⟩), .pointer (some ⟨bc, 0, none⟩), .pointer (some ⟨bl, 0, none⟩), .pointer (some ⟨bt, 0, none⟩)] w1
      (SetDo w1 s km bc h0 w1.heap.size ans ((countT sN n.toNat).go (askS ans) (0, []))) := by
  have hl8 := last_le hs1 hs2
  have HUS := Lib.hid (upTo_set n.toNat)
  have HCF := Lib.hid (cnt_first n.toNat (lastOf sN))
  have HTD : Hid (countT sN n.toNat = .ask (upTo n.toNat) fun v => if v = 2 then cntT sN (cntM (lastOf sN) (upTo n.toNat) (lev0 n.toNat) + 1) (upTo n.toNat) (lev0 n.toNat) else .ret (7, [], [])) := rfl
  have hul := Lib.hid (upTo_length n.toNat)
  have hn256 : n.toNat ≤ 256 := by omega
  obtain ⟨all, hall⟩ : ∃ all, all = upTo n.toNat := ⟨_, rfl⟩
  rw [← hall] at HUS HTD hul HCF
  have hal : all.length ≤ 256 := by rw [hul.out]; omega
  have hwh : ∀ W, Calls Tryd.prog 73 #[.int .i64 n] W (RetN W 3 all) := fun W => by rw [hall]; exact whole_any n W (by omega)
  clear hall
  obtain ⟨full, hful⟩ : ∃ f, (countT sN n.toNat).go (askS ans) (0, []) = f := ⟨_, rfl⟩
  rw [hful]
  have HFUL := Lib.hid hful
  have HN := Lib.hid hn256
  clear hful hn256
  have k0 := hbn.cell 0 rfl
  go_enter Tryd.func80, Tryd.ntmps80
  go_wp2_with fail
  refine (hwh w1).mono ?_
  rintro e w2 ⟨A2, c2, rfl, hf2, ho2⟩
  have hr2 : Rd w2 (.int .i64) A2 c2 all := (Rd.of_own ho2).2
  have hn2 := Nw.own ho2
  have hbc2 := hbc.fr hf2 (by simp)
  have e5 := hbc2.cell 0 rfl
  have f5 := hbc2.frozen 0
  have hz2 := hf2.size
  clear k0
  have hca3 : CandAt (w2.setCell ⟨bc, 0, none⟩ (.slice A2 all.length c2)) bc (Out h0 w1.heap.size) all := candAt_new hbc2 ho2 (fun b h1 h2 => .inr h1) (by omega)
  have hsk3 := (hsk.fr0 hf2).farS hbc2 (by omega) (by omega) (.slice A2 all.length c2)
  have hf13 : Fr [bc] w1 (w2.setCell ⟨bc, 0, none⟩ (.slice A2 all.length c2)) := (hf2.mono (by simp)).setCell (.inl (by simp)) _
  have hr3 := hr2.setCell (p := ⟨bc, 0, none⟩) (fun h0 a ha => by have := hn2 a ha; show a.block ≠ bc; omega) (.slice A2 all.length c2)
  go_wp2_with fail
  clear e5 f5 hbc2 hr2 hf2 ho2
  generalize w2.setCell ⟨bc, 0, none⟩ (.slice A2 all.length c2) = w3 at *
  have hz3 := hf13.size
  have hw03 : Fr [] w0 w3 := hw0.trans2 hf13 (by simp; omega)
  have hf13' : Fr [s, km, bc] w1 w3 := hf13.mono (by simp)
  rcases hq : askV ans 0 [] all with _ | ⟨v, u, kn⟩
  · have hR : Hid (full = .inl all) := by show _ = _; rw [← HFUL.out, HTD.out, Tr.go_none (askS_none hq)]
    have HQ := Lib.hid hq
    clear hq
    refine (fails_ask s km ans 0 [] A2 c2 all w3 hsk3 hr3 (by omega) (i64_of HUS.out (by have := HN.out; omega)) (htab.fr hw03) HQ.out).mono ?_
    rintro e w5 ⟨A5, c5, rfl, hr5, hf5, hnw⟩
    go_wp2
    rw [hR.out]
    exact ⟨rfl, A5, c5, rfl, hr5, hf13'.trans (hf5.mono (by simp)), hnw.mono hz3, all, hca3.fr0 hf5, hal⟩
  · have hfl : full = (if v = 2 then cntT sN (cntM (lastOf sN) all (lev0 n.toNat) + 1) all (lev0 n.toNat) else .ret (7, [], [])).go (askS ans) (u, kn) := by
      rw [← HFUL.out, HTD.out, Tr.go_some (askS_some hq)]
    have HQ := Lib.hid hq
    clear hq
    by_cases hv : v = 2
    · have hb : (v == 2) = true := by simp [hv]
      rw [if_pos hv] at hfl
      clear hv
      have HFL := Lib.hid hfl
      clear hfl
      refine (fails_got s km ans 0 [] A2 c2 all w3 hsk3 hr3 (by omega) (i64_of HUS.out (by have := HN.out; omega)) (htab.fr hw03) HQ.out).mono ?_
      rw [hb]
      rintro e w5 ⟨rfl, hf5, hsk5⟩
      have hca5 := hca3.fr hf5 (by simp; omega) (fun x hx => .inl (by simp at hx; rcases hx with rfl | rfl <;> exact out_s (by omega) (by omega)))
      have hf15 : Fr [s, km, bc] w1 w5 := hf13'.trans (hf5.mono (by simp))
      have hz5 := hf5.size
      clear hca3 hf5 hsk3 hf13 hf13' hr3
      obtain ⟨A6, c6, hb6, hr6, hn6⟩ := id hca5
      have k6 := hb6.cell 0 rfl
      go_wp2_with (at_make; refine wpList_makeN rfl _ _ _ rfl elemInts rfl all.length rfl rfl (by omega) ?_; intro w7 hown7 hg7)
      have hfg7 : Fr [] w5 w7 := (Fr.refl _ w5).grown hg7 (by simp)
      have hI : ICtInv w1 ans n.toNat sN full s km bc w5.heap.size h0 (cntM (lastOf sN) all (lev0 n.toNat) + 1) undef w7 := by
        refine ⟨all, lev0 n.toNat, u, kn, (hca5.imp fun b h1 h2 => ⟨h2, by omega⟩).fr0 hfg7, hal, HCF, Nat.lt_succ_self _, HFL, hsk5.fr0 hfg7, fun h0' => ?_, (hown7.lt _ rfl).2, hf15.trans (hfg7.mono (by simp))⟩
        have h1 : 0 < all.length := by rw [hul.out]; simpa [lev0] using h0'
        have := own_blk hown7 h1
        rw [hul.out] at this
        simpa [lev0] using this
      have hgz : w1.heap.size ≤ w5.heap.size := hf15.size
      have hnl := Nat.le_of_eq hul.out
      have hnl2 := Nat.le_of_eq hul.out.symm
      clear hca5 hb6 hr6 hn6 k6 hown7 hg7 hfg7 HCF HFL hul hsk5 hf15
      generalize w5.heap.size = g at *
      go_wp2_with fail
      go_loopg [8] (cntM (lastOf sN) all (lev0 n.toNat) + 1) (ICtInv w1 ans n.toNat sN full s km bc g h0)
      case atStart => exact hI
      case round =>
        clear hI
        obtain ⟨kept, lev, u, kk, hca, hkl, hci, hcm, hfu, hsk, hlv, hgl, hF⟩ := hrel
        obtain ⟨t, rfl⟩ : ∃ t, gk = t + 1 := ⟨gk - 1, by have := hcm.out; omega⟩
        have hln := Nat.le_of_eq hci.out.len
        have hln2 := Nat.le_of_eq hci.out.len.symm
        obtain ⟨A, cc, hb, hr, hag⟩ := id hca
        have k0 := hb.cell 0 rfl
        have k1 := (hbl.fr hF (by simp; omega)).cell 0 rfl
        have k2 := (hbt.fr hF (by simp; omega)).cell 0 rfl
        go_wp2_with fail
        go_loopw [8, 32] (fun v i wr' => ∃ (j : Nat) (low : Int), j ≤ kept.length ∧ i = .int .i64 j ∧ v = .int .i64 low ∧ Hid (low = lowOf (lastOf sN) lev (kept.take j)) ∧ 0 ≤ low ∧ low ≤ lastOf sN + 1 ∧ wr' = wr) (fun _ i _ => kept.length - (intOf i).toNat)
        case atStart => exact ⟨0, (lastOf sN : Int) + 1, Nat.zero_le _, rfl, by go_num, rfl, by omega, by omega, rfl⟩
        case round =>
          obtain ⟨j, low, hj, rfl, rfl, hlow, hlw0, hlw1, rfl⟩ := hrel
          by_cases hlt : j < kept.length
          · obtain ⟨b0, o0, x, rfl, hx, hc⟩ := hr.at_ hlt
            have hxm := List.mem_of_getElem? hx.out
            have hxr := hci.out.in_ hxm
            have hxb := hci.out.lo x hxm
            obtain ⟨xn, rfl⟩ : ∃ xn : Nat, x = xn := ⟨x.toNat, by omega⟩
            have hxl : xn < lev.length := by omega
            have hxg : xn < all.length := by omega
            have k4 := hlv.cell hxl
            have HNX := Lib.hid (low_next (last := lastOf sN) (lev := lev) hx)
            generalize hle : levOf lev (xn : Int) = lv at *
            clear hle hxm
            go_wp2_with fail
            go_roundw
            case rel => exact ⟨j + 1, min low lv, by omega, by go_num, by go_num, by show _ = _; rw [HNX.out, ← hlow.out], by omega, by omega, by first | rfl | trivial⟩
            case measure => simp [intOf]; omega
          · have HLOW : Hid (low = lowOf (lastOf sN) lev kept) := by show _ = _; rw [hlow.out, low_all (by omega)]
            obtain ⟨lw, rfl⟩ : ∃ lw : Nat, low = lw := ⟨low.toNat, by omega⟩
            clear hlow
            by_cases hgt : (lastOf sN : Int) < (lw : Int)
            · have hdg : lastOf sN < lw := by omega
              have hR : Hid (full = .inr ((0, kept, []), (u, kk))) := by
                show _ = _
                rw [hfu.out, cnt_end (by rw [← HLOW.out]; exact hgt)]
                rfl
              clear hgt hfu HLOW
              go_wp2
              go_ret
              rw [hR.out]
              exact ⟨rfl, hsk.srch, hF, kept, hca.imp (fun b _ h => h.1), hkl, fun _ => rfl⟩
            · have hdg : ¬ lastOf sN < lw := by omega
              have HGT := Lib.hid hgt
              clear hgt
              go_wp2_with fail
              go_loopw [11, 48] (fun v i wr' => ∃ (j : Nat) (G : List Int) (A1 : Option Addr) (c1 : Nat), j ≤ kept.length ∧ i = .int .i64 j ∧ v = .slice A1 G.length c1 ∧ Hid (G = grpOf sN lev (kept.take j) lw) ∧ wr'.ownsRow wr.heap.size 3 1 (.slice A1 G.length c1) G.length (G.map (.int .i64)) ∧ Fr [] wr wr') (fun _ i _ => kept.length - (intOf i).toNat)
              case atStart => exact ⟨0, [], none, 0, Nat.zero_le _, rfl, rfl, by show _ = _; rw [grp_zero], World.ownsRow_nil _ _ _ _, Fr.refl _ _⟩
              case round =>
                obtain ⟨j, G, A1, c1, hj, rfl, rfl, hG, hown, hfg⟩ := hrel
                have hGl0 : G.length ≤ 256 := by rw [hG.out]; exact Nat.le_trans (grp_sub.length_le) (by rw [List.length_take]; omega)
                have k1' := hfg.cell k1 (by simp)
                have k2' := hfg.cell k2 (by simp)
                have k0' := hfg.cell k0 (by simp)
                by_cases hlt : j < kept.length
                · obtain ⟨b0, o0, x, rfl, hx, hc⟩ := (hr.fr0 hfg).at_ hlt
                  have hxm := List.mem_of_getElem? hx.out
                  have hxr := hci.out.in_ hxm
                  obtain ⟨xn, rfl⟩ : ∃ xn : Nat, x = xn := ⟨x.toNat, by omega⟩
                  have hxl : xn < lev.length := by omega
                  have hxg : xn < all.length := by omega
                  have k4 := (hlv.fr hfg (by simp)).cell hxl
                  have hmx : max 1 ((sN : Int) / 2 ^ lw) = ((szOf sN lw : Nat) : Int) := by
                    have : (sN : Int) / 2 ^ lw = ((sN / 2 ^ lw : Nat) : Int) := by simp
                    rw [this]
                    unfold szOf
                    omega
                  clear hxm
                  by_cases hle : levOf lev (xn : Int) = lw
                  · rw [hle] at k4
                    by_cases hsz : G.length < szOf sN lw
                    · have HNX : Hid (grpOf sN lev (kept.take (j + 1)) lw = G ++ [(xn : Int)]) := by show _ = _; rw [grp_hit hx hle (by rw [← hG.out]; exact hsz), ← hG.out]
                      clear hle
                      have hfz := hfg.size
                      go_wp2_with (at_builtin; refine wpList_append_rd rfl (.tmp 67) (.tmp 69) _ rfl elemInts (.slice A1 G.length c1) (G.map (.int .i64)) rfl (hown.alloc _) (some ⟨wr.heap.size, 0, none⟩) 1 [(xn : Int)] (.int .i64) rfl (Rd.one wr _ _ _) one_i64 (by simp; omega) (by simp; omega) ?_; intro A2 c2 w6 hown2 hg2 hat2)
                      go_roundw
                      case rel => exact ⟨j + 1, G ++ [(xn : Int)], A2, c2, by omega, by go_num, by simp, by show _ = _; rw [HNX.out], by simpa using hown2, (hfg.alloc _).app (hown.alloc _) (Nat.le_refl _) hg2⟩
                      case measure => simp [intOf]; omega
                    · have HNX : Hid (grpOf sN lev (kept.take (j + 1)) lw = G) := by show _ = _; rw [grp_over hx (by rw [← hG.out]; exact hsz), ← hG.out]
                      clear hle
                      go_wp2_with fail
                      go_roundw
                      case rel => exact ⟨j + 1, G, A1, c1, by omega, by go_num, rfl, by show _ = _; rw [HNX.out], hown, hfg⟩
                      case measure => simp [intOf]; omega
                  · have HNX : Hid (grpOf sN lev (kept.take (j + 1)) lw = G) := by show _ = _; rw [grp_miss hx hle, ← hG.out]
                    have hdl : (levOf lev (xn : Int) == (lw : Int)) = false := by simpa using hle
                    have hdl2 : decide (levOf lev (xn : Int) = (lw : Int)) = false := by simpa using hle
                    generalize levOf lev (xn : Int) = lv at *
                    clear hle
                    go_wp2_with fail
                    go_roundw
                    case rel => exact ⟨j + 1, G, A1, c1, by omega, by go_num, rfl, by show _ = _; rw [HNX.out], hown, hfg⟩
                    case measure => simp [intOf]; omega
                · have GEQ : grpOf sN lev (kept.take j) lw = grpOf sN lev kept lw := grp_all (by omega)
                  have HGF : Hid (G = grpOf sN lev kept lw) := by show _ = _; rw [hG.out]; exact GEQ
                  have hst0 := cnt_step hci.out hs1 hs2 hkl (by rw [← HLOW.out]; have := HGT.out; omega)
                  rw [← HLOW.out, ← HGF.out] at hst0
                  have hask := cnt_ask (t := t) HLOW.out.symm (by have := HGT.out; omega) HGF.out.symm rfl
                  rw [hask] at hfu
                  have HST := Lib.hid hst0
                  have HFU := hfu
                  have hrG : Rd _ (.int .i64) A1 c1 G := (Rd.of_own hown).2
                  have hnG : ∀ a, A1 = some a → a.block ≠ g ∧ wr.heap.size ≤ wr.heap.size := fun a ha => by subst ha; have := (hown.lt a.block rfl).1; omega
                  have hca4 := hca.fr0 hfg
                  have hlv4 := hlv.fr hfg (by simp)
                  have hsk4 := hsk.fr0 hfg
                  have hr4 := hr.fr0 hfg
                  have hF4 := hF.trans (hfg.mono (by simp))
                  have hGl := hst0.sub.length_le
                  have hz4 := hfg.size
                  have hzz := hF.size
                  have hnG2 : ∀ k, (Value.slice A1 G.length c1).ownBlock = some k → w1.heap.size ≤ k := fun k hk => by have := (hown.lt k hk).1; omega
                  have hnG3 : ∀ a, A1 = some a → w1.heap.size ≤ a.block := fun a ha => by subst ha; exact hnG2 _ rfl
                  clear hask hst0 hown hca hlv hsk hr hF hG hfu hfg k0 k1 k2 k1' k2' GEQ hnG2
                  go_wp2_with fail
                  refine (without_any A A1 cc c1 kept G _ hr4 hrG (by omega)).mono ?_
                  simp only [RetOwn, List.length_map]
                  rintro e w6 ⟨A6, c6, rfl, hf6, ho6⟩
                  generalize hRR : minus kept G = R at *
                  have HRR := Lib.hid hRR
                  have hRl : R.length ≤ kept.length := by rw [← hRR]; exact minus_le _ _
                  have HRS : Hid (isSet n.toNat R = true) := by show _ = _; rw [← hRR]; exact HST.out.set
                  clear hRR
                  have hca6 := hca4.fr0 hf6
                  have hlv6 := hlv4.fr hf6 (by simp)
                  have hsk6 := hsk4.fr0 hf6
                  have hF6 := hF4.trans (hf6.mono (by simp))
                  have hrG6 := hrG.fr0 hf6
                  have hrR : Rd w6 (.int .i64) A6 c6 R := (Rd.of_own ho6).2
                  have hz6 := hf6.size
                  have hz46 := hF4.size
                  have hnR : ∀ a, A6 = some a → g < a.block ∧ w1.heap.size ≤ a.block := fun a ha => by subst ha; have := (ho6.lt a.block rfl).1; omega
                  have ho6k := own_base ho6 (show w1.heap.size ≤ _ by omega)
                  have hgk := hnR
                  clear hca4 hlv4 hsk4 hF4 hrG hr4 hf6
                  have hw06 : Fr [] w0 w6 := hw0.trans2 hF6 (by have := hw0.size; simp; omega)
                  rcases hq : askV ans u kk R with _ | ⟨v2, u2, kn2⟩
                  · have hR : Hid (full = .inl R) := by show _ = _; rw [HFU.out, Tr.go_none (askS_none hq)]
                    have HQ2 := Lib.hid hq
                    clear hq
                    go_wp2_with fail
                    refine (fails_ask s km ans u kk A6 c6 R w6 hsk6 hrR (by omega) (i64_of HRS.out (by have := HN.out; omega)) (htab.fr hw06) HQ2.out).mono ?_
                    rintro e w8 ⟨A8, c8, rfl, hr8, hf8, hnw8⟩
                    go_wp2
                    rw [hR.out]
                    exact ⟨rfl, A8, c8, rfl, hr8, hF6.trans (hf8.mono (by simp)), hnw8.mono (by omega), kept, (hca6.fr0 hf8).imp (fun b _ h => h.1), hkl⟩
                  · have hfl : full = (if v2 = 2 then cntT sN t R (capL (lastOf sN) lev R) else cntT sN t kept (bumpL lev G)).go (askS ans) (u2, kn2) := by
                      rw [HFU.out, Tr.go_some (askS_some hq)]
                    have HQ2 := Lib.hid hq
                    clear hq HFU
                    by_cases hv2 : v2 = 2
                    · have hb3 : (v2 == 2) = true := by simp [hv2]
                      rw [if_pos hv2] at hfl
                      have HFL := Lib.hid hfl
                      have HCI : Hid (CInv n.toNat (lastOf sN) R (capL (lastOf sN) lev R)) := by show CInv _ _ _ _; have := HST.out.cap.1; rw [HRR.out] at this; exact this
                      have HCM : Hid (cntM (lastOf sN) R (capL (lastOf sN) lev R) < t) := by show _ < _; have h1 := HST.out.cap.2; have h2 := hcm.out; rw [HRR.out] at h1; omega
                      have hsubR : ∀ x ∈ R, x ∈ kept := fun x hx => by rw [← HRR.out] at hx; exact (mem_minus.1 hx).1
                      have HIN : Hid (∀ x ∈ R, 0 ≤ x ∧ x < lev.length) := fun x hx => hci.out.in_ (hsubR x hx)
                      clear hsubR
                      have HNN : Hid (∀ (j : Nat), (capL (lastOf sN) lev (R.take j)).length = lev.length) := fun j => capL_length _ _
                      clear hfl hv2 HGF HLOW hrG6 hci hcm HST HRR
                      go_wp2_with fail
                      refine (fails_got s km ans u kk A6 c6 R w6 hsk6 hrR (by omega) (i64_of HRS.out (by have := HN.out; omega)) (htab.fr hw06) HQ2.out).mono ?_
                      rw [hb3]
                      rintro e w8 ⟨rfl, hf8, hsk8⟩
                      have hca8 := hca6.fr hf8 (by simp; omega) (fun x hx => .inl (by simp at hx; rcases hx with rfl | rfl <;> exact fun h => out_s (by omega) (by omega) h.1))
                      have ho8 := own_fr ho6k hf8 (fun k hk => by have h1 := (ho6k.lt k hk).1; simp at h1 ⊢; omega)
                      have ho8g := own_fr ho6 hf8 (fun k hk => by have h1 := (ho6.lt k hk).1; simp at h1 ⊢; omega)
                      have hlv8 := hlv6.fr hf8 (by simp; omega)
                      have hF8 := hF6.trans (hf8.mono (T := [s, km, bc]) (by simp))
                      obtain ⟨A9, c9, hb9, hr9, hn9⟩ := id hca8
                      have k9 := hb9.cell 0 rfl
                      have k9f := hb9.frozen 0
                      have hz8 := hf8.size
                      have hcn : CandAt (w8.setCell ⟨bc, 0, none⟩ (.slice A6 R.length c6)) bc (fun b => Out h0 w1.heap.size b ∧ b ≠ g) R := candAt_new hb9 ho8g (fun b h1 h2 => ⟨.inr (by omega), by omega⟩) (by omega)
                      have hrn := (hrR.fr hf8 (fun h0 a ha => by have := hnR a ha; simp; omega)).setCell (p := ⟨bc, 0, none⟩) (fun h0 a ha => by have := hnR a ha; show a.block ≠ bc; omega) (.slice A6 R.length c6)
                      have hskn := hsk8.farS hb9 (by omega) (by omega) (.slice A6 R.length c6)
                      have hFn : Fr [s, km, bc] w1 (w8.setCell ⟨bc, 0, none⟩ (.slice A6 R.length c6)) := hF8.setCell (.inl (by simp)) _
                      have hset : Fr [bc] w8 (w8.setCell ⟨bc, 0, none⟩ (.slice A6 R.length c6)) := (Fr.refl _ w8).setCell (.inl (by simp)) _
                      have hlvn := hlv8.fr hset (by simp; omega)
                      have hzn := hset.size
                      clear hca8 ho8 ho8g ho6 ho6k hlv8 hF8 hsk8 hr9 hn9 hset hb9 hf8 hsk6 hca6 hlv6 hF6 hw06
                      go_wp2_with fail
                      clear k9 k9f
                      generalize w8.setCell ⟨bc, 0, none⟩ (.slice A6 R.length c6) = w9 at *
                      go_loopw [95] (fun i wr' => ∃ j : Nat, j ≤ R.length ∧ i = .int .i64 j ∧ LevAt wr' g (capL (lastOf sN) lev (R.take j)) ∧ Fr [g] w9 wr') (fun i _ => R.length - (intOf i).toNat)
                      case atStart => exact ⟨0, Nat.zero_le _, rfl, by rw [cap_zero]; exact hlvn, Fr.refl _ _⟩
                      case round =>
                        clear hlvn
                        obtain ⟨j, hj, rfl, hlv, hfj⟩ := hrel
                        by_cases hlt : j < R.length
                        · have hr11 := hrn.fr hfj (fun h0 a ha => by have := hnR a ha; simp; omega)
                          obtain ⟨b0, o0, x, rfl, hx, hc⟩ := hr11.at_ hlt
                          have hxr := HIN.out x (List.mem_of_getElem? hx.out)
                          obtain ⟨xn, rfl⟩ : ∃ xn : Nat, x = xn := ⟨x.toNat, by omega⟩
                          have hxl : xn < (capL (lastOf sN) lev (R.take j)).length := by rw [HNN.out]; omega
                          have k4 := hlv.cell hxl
                          have k5 := hlv.frozen hxl
                          have k6 := ((hbl.fr hFn (by simp; omega)).fr hfj (by simp; omega)).cell 0 rfl
                          have HLS := Lib.hid (fun v => hlv.set hxl v)
                          have HNX := Lib.hid (cap_next (last := lastOf sN) (lev := lev) hx)
                          have hne : b0 ≠ g := by have h0 := (hnR _ rfl).1; exact Nat.ne_of_gt h0
                          have hxg : xn < all.length := by omega
                          clear hlv hxl
                          generalize levOf (capL (lastOf sN) lev (R.take j)) xn = lv at *
                          go_wp2_with fail
                          go_region_with fail
                          all_goals
                            go_wp2_with fail
                            go_roundw
                            case rel => exact ⟨j + 1, by omega, by go_num, by rw [HNX.out]; exact HLS.out _, (hfj.setCell (p := ⟨g, xn, none⟩) (.inl (by simp)) _).drew⟩
                            case measure => simp [intOf]; omega
                        · rw [cap_all (by omega)] at hlv
                          have hF10 := hFn.trans2 hfj (by simp; omega)
                          have hca10 := hcn.fr hfj (by simp; omega) (fun x hx => by simp at hx; subst hx; exact .inl fun h => h.2 rfl)
                          have hsk10 := hskn.fr hfj (by simp; omega) (by simp; omega) (by simp; omega)
                          have hgz2 := hfj.size
                          go_wp2_with fail
                          go_roundg t
                          case measure => omega
                          case rel => exact ⟨R, _, u2, kn2, hca10, by omega, HCI, HCM, HFL, hsk10, hlv, by omega, hF10⟩
                    · have hb3 : (v2 == 2) = false := by simpa using hv2
                      rw [if_neg hv2] at hfl
                      have HFL := Lib.hid hfl
                      have HCI : Hid (CInv n.toNat (lastOf sN) kept (bumpL lev G)) := HST.out.bump.1
                      have HCM : Hid (cntM (lastOf sN) kept (bumpL lev G) < t) := by show _ < _; have h1 := HST.out.bump.2; have h2 := hcm.out; omega
                      have hgn := (set_nodup hci.out.set).sublist HST.out.sub
                      have HIN : Hid (∀ x ∈ G, 0 ≤ x ∧ x < lev.length) := fun x hx => hci.out.in_ (HST.out.sub.subset hx)
                      have HNN : Hid (∀ (j : Nat), (bumpL lev (G.take j)).length = lev.length) := fun j => bumpL_length _ _
                      have HBB : Hid (∀ (j : Nat) (x : Int), x ∈ G → 0 ≤ levOf (bumpL lev (G.take j)) x ∧ levOf (bumpL lev (G.take j)) x ≤ 20) := fun j x hx => by
                        have h1 := hci.out.lo x (HST.out.sub.subset hx)
                        rw [levOf_bump _ _ (fun y hy => HIN.out y (List.mem_of_mem_take hy)) (hgn.sublist (List.take_sublist _ _)) x (HIN.out x hx).1]
                        split <;> omega
                      clear hfl hv2 HGF HLOW hci hcm HST HRR hgn
                      go_wp2_with fail
                      refine (fails_got s km ans u kk A6 c6 R w6 hsk6 hrR (by omega) (i64_of HRS.out (by have := HN.out; omega)) (htab.fr hw06) HQ2.out).mono ?_
                      rw [hb3]
                      rintro e w8 ⟨rfl, hf8, hsk8⟩
                      have hca8 := hca6.fr hf8 (by simp; omega) (fun x hx => .inl (by simp at hx; rcases hx with rfl | rfl <;> exact fun h => out_s (by omega) (by omega) h.1))
                      have hlv8 := hlv6.fr hf8 (by simp; omega)
                      have hF8 := hF6.trans (hf8.mono (T := [s, km, bc]) (by simp))
                      have hrG8 := hrG6.fr hf8 (fun h0 a ha => by have := hnG3 a ha; simp; omega)
                      have hz8 := hf8.size
                      clear ho6 ho6k hf8 hsk6 hca6 hlv6 hF6 hw06 hrG6 hrR
                      go_wp2_with fail
                      go_loopw [81] (fun i wr' => ∃ j : Nat, j ≤ G.length ∧ i = .int .i64 j ∧ LevAt wr' g (bumpL lev (G.take j)) ∧ Fr [g] w8 wr') (fun i _ => G.length - (intOf i).toNat)
                      case atStart => exact ⟨0, Nat.zero_le _, rfl, by rw [bump_zero]; exact hlv8, Fr.refl _ _⟩
                      case round =>
                        clear hlv8
                        obtain ⟨j, hj, rfl, hlv, hfj⟩ := hrel
                        by_cases hlt : j < G.length
                        · obtain ⟨b0, o0, x, rfl, hx, hc⟩ := (hrG8.fr hfj (fun h0 a ha => by simpa using (hnG a ha).1)).at_ hlt
                          have hxm := List.mem_of_getElem? hx.out
                          have hxr := HIN.out x hxm
                          have hxb := HBB.out j x hxm
                          obtain ⟨xn, rfl⟩ : ∃ xn : Nat, x = xn := ⟨x.toNat, by omega⟩
                          have hxl : xn < (bumpL lev (G.take j)).length := by rw [HNN.out]; omega
                          have k4 := hlv.cell hxl
                          have k5 := hlv.frozen hxl
                          have HLS := Lib.hid (fun v => hlv.set hxl v)
                          have HNX := Lib.hid (bump_next (lev := lev) hx)
                          have hne : b0 ≠ g := (hnG _ rfl).1
                          have hxg : xn < all.length := by omega
                          clear hlv hxl hxm
                          generalize levOf (bumpL lev (G.take j)) xn = lv at *
                          go_wp2_with fail
                          go_roundw
                          case rel => exact ⟨j + 1, by omega, by go_num, by rw [HNX.out]; exact HLS.out _, hfj.setCell (p := ⟨g, xn, none⟩) (.inl (by simp)) _⟩
                          case measure => simp [intOf]; omega
                        · rw [bump_all (by omega)] at hlv
                          have hF10 := hF8.trans2 hfj (by simp; omega)
                          have hca10 := hca8.fr hfj (by simp; omega) (fun x hx => by simp at hx; subst hx; exact .inl fun h => h.2 rfl)
                          have hsk10 := hsk8.fr hfj (by simp; omega) (by simp; omega) (by simp; omega)
                          have hgz2 := hfj.size
                          go_wp2_with fail
                          go_roundg t
                          case measure => omega
                          case rel => exact ⟨kept, _, u2, kn2, hca10, hkl, HCI, HCM, HFL, hsk10, hlv, by omega, hF10⟩
    · have hb : (v == 2) = false := by simpa using hv
      rw [if_neg hv] at hfl
      have hR : Hid (full = .inr ((7, [], []), (u, kn))) := hfl
      clear hfl hv
      refine (fails_got s km ans 0 [] A2 c2 all w3 hsk3 hr3 (by omega) (i64_of HUS.out (by have := HN.out; omega)) (htab.fr hw03) HQ.out).mono ?_
      rw [hb]
      rintro e w5 ⟨rfl, hf5, hsk5⟩
      have hca5 := hca3.fr hf5 (by simp; omega) (fun x hx => .inl (by simp at hx; rcases hx with rfl | rfl <;> exact out_s (by omega) (by omega)))
      have hf15 : Fr [s, km, bc] w1 w5 := hf13'.trans (hf5.mono (by simp))
      go_wp2
      go_ret
      rw [hR.out]
      exact ⟨rfl, hsk5.srch, hf15, all, hca5, hal, by simp⟩
end Go.Proofs.YtjpbmbonccenfaaDoor

/- Counted of the program. -/
namespace Go.Proofs.YtjpbmbonccenfaaDoor
open Go.RowKit
set_option linter.unusedVariables false

theorem enter_count (args : Array Value) (w : World) : (callFunc 80 args).run Tryd.prog w = .ok (.enter 80 args) w := by
  simp [go_sem]
theorem shr_gt {s l : Nat} (hs : 1 ≤ s) (hl : l ≤ lastOf s) : (1 : Int) < (s : Int) / 2 ^ l ↔ l < lastOf s := by
  rw [← sz_gt hs hl]
  have : (s : Int) / 2 ^ l = ((s / 2 ^ l : Nat) : Int) := by simp
  rw [this]
  unfold szOf
  omega
/-- Between two rounds of the first loop. -/
def CntW (w : World) (n : Int) (s : Nat) (t : Nat) (v : Value) (W : World) : Prop :=
  ∃ l : Nat, l ≤ lastOf s ∧ lastOf s - l < t ∧ Fr [] w W ∧ W.heap.size = w.heap.size + 4 ∧ Blk W w.heap.size 3 #[.int .i64 n] ∧ Blk W (w.heap.size + 1) 3 #[.int .i64 s] ∧
    Blk W (w.heap.size + 1 + 1) 34 #[.bool false, .slice none 0 0, .slice none 0 0, .slice none 0 0] ∧ Blk W (w.heap.size + 1 + 1 + 1) 3 #[.int .i64 l]

set_option maxRecDepth 100000 in
set_option maxHeartbeats 6400000 in
theorem Counted_any (D : Option Addr) (d : Nat) (n start : Int) (ans : List Int) (w : World) (hd : Rd w (.int .u8) D d ans) (htab : Tab w) :
    Calls Tryd.prog 28 #[.int .i64 n, .int .i64 start, .slice D ans.length d] w (RetQstF w.heap.size w (countedOf n start ans)) := by
  have hn : ∀ W : World, Rd W (.int .i64) none 0 ([] : List Int) ∧ Nw w.heap.size none := fun W => ⟨Rd.nil_ W _, Nw.none_ _⟩
  have hmf : ∀ (fn : Fn) (first cap : Array Value) (w : World), (Instr.makeFunc fn first cap).run Tryd.prog w = .ok (.func fn first cap) w := fun _ _ _ _ => rfl
  obtain ⟨hs1, hs2⟩ := startOf_in start
  have hmx : min (max start 1) 256 = ((startOf start : Nat) : Int) := by unfold startOf; omega
  have hR0 : Hid (¬ 256 < n → countedOf n start ans = qOf ans (countT (startOf start) n.toNat)) := fun h => by unfold countedOf; rw [if_neg h]
  generalize startOf start = sN at *
  have hl8 := last_le hs1 hs2
  obtain ⟨W, hW⟩ : ∃ W, W = (((w.alloc (.cells #[.int .i64 n] 3)).alloc (.cells #[.int .i64 start] 3)).alloc (.cells #[.bool false, .slice none 0 0, .slice none 0 0, .slice none 0 0] 34)) := ⟨_, rfl⟩
  have x0 : Blk W w.heap.size 3 #[.int .i64 n] := by rw [hW]; exact ((Blk.new w 3 #[.int .i64 n] _ rfl).alloc _).alloc _
  have x1 : Blk W (w.heap.size + 1) 3 #[.int .i64 start] := by rw [hW]; exact (Blk.new (w.alloc (.cells #[.int .i64 n] 3)) 3 #[.int .i64 start] (w.heap.size + 1) (by simp)).alloc _
  have x2 : Blk W (w.heap.size + 1 + 1) 34 #[.bool false, .slice none 0 0, .slice none 0 0, .slice none 0 0] := by rw [hW]; exact Blk.new ((w.alloc (.cells #[.int .i64 n] 3)).alloc (.cells #[.int .i64 start] 3)) _ _ _ (by simp)
  have hfW : Fr [] w W := by rw [hW]; exact (by repeat (first | exact Fr.refl _ _ | assumption | apply Fr.drewN | apply Fr.drew | apply Fr.alloc | refine Fr.setCell ?_ (by simp) _))
  have hz : W.heap.size = w.heap.size + 3 := by rw [hW]; simp
  have q0 := x0.cell 0 rfl
  have q1 := x1.cell 0 rfl
  have f1 := x1.frozen 0
  have qc0 := x2.cell 0 rfl
  have qc1 := x2.cell 1 rfl
  have qc2 := x2.cell 2 rfl
  have qc3 := x2.cell 3 rfl
  have qd0 := x2.frozen 0
  have qd1 := x2.frozen 1
  have qd2 := x2.frozen 2
  have qd3 := x2.frozen 3
  rw [hW] at q0 q1 f1 qc0 qc1 qc2 qc3 qd0 qd1 qd2 qd3
  have HW := Lib.hid hW.symm
  clear hW
  by_cases h256 : 256 < n
  · have hcb : decide (n > 256) = true := by simpa using h256
    have hR : Hid (countedOf n start ans = (qNone, 3)) := by show _ = _; unfold countedOf; rw [if_pos h256]
    clear hmx
    go_enter Tryd.func28, Tryd.ntmps28
    go_wp2_with fail
    rw [HW.out]
    refine bodyPost_ret (results_qst rfl _ _ (w.heap.size + 1 + 1) rfl x2) rfl ?_
    rw [hR.out]
    exact ⟨_, rfl, hfW, none, 0, none, 0, none, 0, rfl, hn _, hn _, hn _⟩
  · have hcb : decide (n > 256) = false := by simpa using h256
    have hR1 : Hid (countedOf n start ans = qOf ans (countT sN n.toNat)) := hR0.out h256
    clear hR0
    go_enter Tryd.func28, Tryd.ntmps28
    go_wp2_with fail
    obtain ⟨X, hX⟩ : ∃ X, X = (((w.alloc (.cells #[.int .i64 n] 3)).alloc (.cells #[.int .i64 sN] 3)).alloc (.cells #[.bool false, .slice none 0 0, .slice none 0 0, .slice none 0 0] 34)).alloc (.cells #[.int .i64 0] 3) := ⟨_, rfl⟩
    have hI : CntW w n sN (lastOf sN + 1) undef X := by
      refine ⟨0, Nat.zero_le _, by omega, ?_, ?_, ?_, ?_, ?_, ?_⟩
      · rw [hX]; exact (by repeat (first | exact Fr.refl _ _ | assumption | apply Fr.drewN | apply Fr.drew | apply Fr.alloc | refine Fr.setCell ?_ (by simp) _))
      · rw [hX]; simp
      · rw [hX]; exact (((Blk.new w 3 #[.int .i64 n] _ rfl).alloc _).alloc _).alloc _
      · rw [hX]; exact ((Blk.new (w.alloc (.cells #[.int .i64 n] 3)) 3 #[.int .i64 sN] (w.heap.size + 1) (by simp)).alloc _).alloc _
      · rw [hX]; exact (Blk.new ((w.alloc (.cells #[.int .i64 n] 3)).alloc (.cells #[.int .i64 sN] 3)) _ _ _ (by simp)).alloc _
      · rw [hX]; exact Blk.new (((w.alloc (.cells #[.int .i64 n] 3)).alloc (.cells #[.int .i64 sN] 3)).alloc (.cells #[.bool false, .slice none 0 0, .slice none 0 0, .slice none 0 0] 34)) _ _ _ (by simp)
    rw [← hX]
    clear hX x0 x1 x2 hfW hz q0 q1 f1 qc0 qc1 qc2 qc3 qd0 qd1 qd2 qd3 HW hmx
    go_loopg [19] (lastOf sN + 1) (CntW w n sN)
    case atStart => exact hI
    case round =>
      clear hI
      obtain ⟨l, hl, hlm, hF, hz, y0, y1, y2, y3⟩ := hrel
      have k1 := y1.cell 0 rfl
      have k3 := y3.cell 0 rfl
      have f3 := y3.frozen 0
      by_cases hlt : l < lastOf sN
      · have hgt := (shr_gt hs1 hl).2 hlt
        go_wp2_with fail
        go_roundg (lastOf sN - l)
        case measure => omega
        case rel =>
          have y3' := y3.set_ 0 (.int .i64 ((l : Int) + 1))
          exact ⟨l + 1, by omega, by omega, hF.setCell (.inr (by show _ ≤ w.heap.size + 1 + 1 + 1; omega)) _, by simpa using hz, y0.far (by show _ ≠ w.heap.size + 1 + 1 + 1; omega) _, y1.far (by show _ ≠ w.heap.size + 1 + 1 + 1; omega) _, y2.far (by show _ ≠ w.heap.size + 1 + 1 + 1; omega) _, by simpa using y3'⟩
      · have hgt : ¬ (1 : Int) < (sN : Int) / 2 ^ l := fun h => hlt ((shr_gt hs1 hl).1 h)
        obtain rfl : l = lastOf sN := by omega
        clear hlt hlm hl
        obtain ⟨w3, hw3⟩ : ∃ w3, w3 = wr.alloc (.cells #[.slice none 0 0] 22) := ⟨_, rfl⟩
        have hC3 : Blk w3 (w.heap.size + 4) 22 #[.slice none 0 0] := by rw [hw3]; exact Blk.new wr _ _ _ (by omega)
        have hcd3 : CandAt w3 (w.heap.size + 4) (fun b => b < w3.heap.size) [] := ⟨none, 0, hC3, Rd.nil_ _ _, by simp⟩
        have hN3 : Blk w3 w.heap.size 3 #[.int .i64 n] := by rw [hw3]; exact y0.alloc _
        have hS3 : Blk w3 (w.heap.size + 1) 3 #[.int .i64 sN] := by rw [hw3]; exact y1.alloc _
        have hB3 : Blk w3 (w.heap.size + 1 + 1) 34 #[.bool false, .slice none 0 0, .slice none 0 0, .slice none 0 0] := by rw [hw3]; exact y2.alloc _
        have hL3 : Blk w3 (w.heap.size + 1 + 1 + 1) 3 #[.int .i64 (lastOf sN)] := by rw [hw3]; exact y3.alloc _
        have hF3 : Fr [] w w3 := by rw [hw3]; exact hF.alloc _
        have hz3 : w3.heap.size = w.heap.size + 5 := by rw [hw3]; simp; omega
        have hdr := hd.fr0 hF3
        have HZW := Lib.hid hz
        have HW3 : Hid (wr.alloc (.cells #[.slice none 0 0] 22) = w3) := hw3.symm
        have hzw : wr.heap.size = w.heap.size + 4 := by omega
        clear y0 y1 y2 hw3
        go_wp2_with fail
        rw [HW3.out]
        clear hz hzw
        by_cases h4 : 4096 < ans.length
        · have hR : Hid (countedOf n start ans = (qNone, 3)) := by show _ = _; rw [hR1.out]; unfold qOf; rw [if_pos h4]
          refine (run_limit _ D d ans _ hdr h4).mono ?_
          rintro e w5 ⟨rfl, hf5⟩
          obtain ⟨A5, c5, hb5, hr5, _⟩ := hcd3.fr0 hf5
          have k5 := hb5.cell 0 rfl
          have hB5 := hB3.fr hf5 (by simp)
          have hF5 := hF3.trans hf5
          go_wp2_with fail
          refine (quest_any none A5 0 c5 [] (([] : List Int)) false 3 _ (Rd.nil_ _ _) hr5 (by simp) w.heap.size hF5.size (Nw.none_ _)).mono ?_
          rintro e w6 ⟨vq, rfl, hf6, A1, a1, B1, b1, C1, c1, rfl, hq1, hq2, hq3⟩
          have hB6 := hB5.fr hf6 (by simp)
          have qc0 := hB6.cell 0 rfl
          have qc1 := hB6.cell 1 rfl
          have qc2 := hB6.cell 2 rfl
          have qc3 := hB6.cell 3 rfl
          have qd0 := hB6.frozen 0
          have qd1 := hB6.frozen 1
          have qd2 := hB6.frozen 2
          have qd3 := hB6.frozen 3
          go_wp2
          refine bodyPost_ret (results_qst rfl _ _ (w.heap.size + 1 + 1) rfl (hB6.four _ _ _ _)) rfl ?_
          rw [hR.out, show (qNone, (3 : Int)) = questOf [] (([] : List Int)) false 3 by simp [questOf]]
          exact qstF_ret (by omega) (hF5.trans hf6) hB6 hq1 hq2 hq3
        · obtain ⟨full, hful⟩ : ∃ f, (countT sN n.toNat).go (askS ans) (0, []) = f := ⟨_, rfl⟩
          have hR : Hid (countedOf n start ans = finT ans full) := by show _ = _; rw [hR1.out, qOf_fin h4, hful]
          have hdo : ∀ w1, AtDo w3 w1 ans → Calls Tryd.prog 80 (#[.pointer (some ⟨w3.heap.size + 1 + 1, 0, none⟩)] ++ #[.pointer (some ⟨w.heap.size, 0, none⟩), .pointer (some ⟨w.heap.size + 4, 0, none⟩), .pointer (some ⟨w.heap.size + 1 + 1 + 1, 0, none⟩), .pointer (some ⟨w.heap.size + 1, 0, none⟩)]) w1
              (SetDo w1 (w3.heap.size + 1 + 1) (w3.heap.size + 1) (w.heap.size + 4) w3.heap.size (w3.heap.size + 3) ans ((countT sN n.toNat).go (askS ans) (0, []))) := fun w1 hat => by
            have hz := hat.size
            rw [← hz]
            have hb1 := hat.fr.size
            exact countdo_any (w3.heap.size + 1 + 1) (w3.heap.size + 1) w.heap.size (w.heap.size + 4) (w.heap.size + 1 + 1 + 1) (w.heap.size + 1) w3.heap.size ans w w1 n sN (hF3.trans hat.fr) htab (by omega) hs1 hs2 (by omega) (by omega) (by omega) (by omega) (by omega) (by omega) (by omega) (by omega) (by omega) (by omega) (by omega) hat.sk (hN3.fr hat.fr (by simp)) (hC3.fr hat.fr (by simp)) (hL3.fr hat.fr (by simp)) (hS3.fr hat.fr (by simp))
          have hpass : ∀ er kept pass u kn, full = .inr ((er, kept, pass), (u, kn)) → pass = [] := fun er kept pass u kn he => by
            rw [← hful] at he
            exact Tr.ends_go (P := fun r : Res => r.2.2 = []) _ _ (countT_pass sN n.toNat) he
          rw [hful] at hdo
          have HP := Lib.hid hpass
          have h4' : ans.length ≤ 4096 := by omega
          have hS : ∀ x ∈ [(w.heap.size + 4)], x < w3.heap.size := by simp; omega
          clear hful h4 hpass hR1
          rcases full with q | ⟨⟨er, kept, pass⟩, u, kn⟩
          · go_wp2_with fail
            refine (run_ask w3 D d ans 80 _ _ hS _ q hdr h4' enter_count hdo).mono ?_
            rintro e w5 ⟨A3, c3, rfl, hr3, hf5, hnw, wd, ⟨cd, hcd, hcdl⟩, hfd⟩
            clear hdo
            have hcd5 := hcd.fr hfd (by simp <;> omega) (by intro x hx; simp at hx; subst hx; exact .inl (out_s (Nat.le_refl _) (by omega)))
            obtain ⟨A6, c6, hbk6, hcr6, _⟩ := hcd5
            have k5 := hbk6.cell 0 rfl
            have hB5 := hB3.fr hf5 (by simp)
            have hf05 : Fr [] w w5 := hF3.trans2 hf5 (by simp <;> omega)
            go_wp2_with fail
            refine (quest_any A3 A6 c3 c6 q cd false 0 _ hr3 hcr6 (by omega) w.heap.size hf05.size (hnw.mono hF3.size)).mono ?_
            rintro e w6 ⟨vq, rfl, hf6, A1, a1, B1, b1, C1, c1, rfl, hq1, hq2, hq3⟩
            have hB6 := hB5.fr hf6 (by simp)
            have qc0 := hB6.cell 0 rfl
            have qc1 := hB6.cell 1 rfl
            have qc2 := hB6.cell 2 rfl
            have qc3 := hB6.cell 3 rfl
            have qd0 := hB6.frozen 0
            have qd1 := hB6.frozen 1
            have qd2 := hB6.frozen 2
            have qd3 := hB6.frozen 3
            go_wp2
            refine bodyPost_ret (results_qst rfl _ _ (w.heap.size + 1 + 1) rfl (hB6.four _ _ _ _)) rfl ?_
            rw [hR.out, fin_ask (cd := cd) rfl]
            exact qstF_ret (by omega) (hf05.trans hf6) hB6 hq1 hq2 hq3
          · obtain rfl := HP.out er kept pass u kn rfl
            clear HP
            refine (run_end w3 D d ans 80 _ _ hS _ er u hdr h4' enter_count hdo).mono ?_
            rintro e w5 ⟨rfl, hf5, wd, ⟨cd, hcd, hcdl, hck⟩, hfd⟩
            clear hdo
            have hcd5 := hcd.fr hfd (by simp <;> omega) (by intro x hx; simp at hx; subst hx; exact .inl (out_s (Nat.le_refl _) (by omega)))
            obtain ⟨A6, c6, hbk6, hcr6, _⟩ := hcd5
            have k5 := hbk6.cell 0 rfl
            have hB5 := hB3.fr hf5 (by simp)
            have hf05 : Fr [] w w5 := hF3.trans2 hf5 (by simp <;> omega)
            have HFE := Lib.hid (fin_end (ans := ans) (kn := kn) (u := u) rfl hck)
            clear hck
            generalize hdn : decide (er = 0 ∧ ans.length ≤ u) = dn at *
            generalize her : (if er ≠ 0 then er else if u < ans.length then 8 else 0) = er2 at *
            have HD := Lib.hid hdn
            have HE := Lib.hid her
            clear hdn her
            go_wp2_with fail
            refine (quest_any none A6 0 c6 [] cd dn er2 _ (Rd.nil_ _ _) hcr6 (by omega) w.heap.size hf05.size (Nw.none_ _)).mono ?_
            rintro e w6 ⟨vq, rfl, hf6, A1, a1, B1, b1, C1, c1, rfl, hq1, hq2, hq3⟩
            have hB6 := hB5.fr hf6 (by simp)
            have qc0 := hB6.cell 0 rfl
            have qc1 := hB6.cell 1 rfl
            have qc2 := hB6.cell 2 rfl
            have qc3 := hB6.cell 3 rfl
            have qd0 := hB6.frozen 0
            have qd1 := hB6.frozen 1
            have qd2 := hB6.frozen 2
            have qd3 := hB6.frozen 3
            go_wp2
            refine bodyPost_ret (results_qst rfl _ _ (w.heap.size + 1 + 1) rfl (hB6.four _ _ _ _)) rfl ?_
            rw [hR.out, HFE.out]
            exact qstF_ret (by omega) (hf05.trans hf6) hB6 hq1 hq2 hq3
end Go.Proofs.YtjpbmbonccenfaaDoor

/- awake: the examples of the chapter about sets. -/
namespace Go.Proofs.YtjpbmbonccenfaaDoor
open Go.RowKit
set_option linter.unusedVariables false

theorem ex_chunks : chunksOf [1, 2, 3, 4, 5] 2 = [[1, 2], [3, 4, 5]] := by decide
theorem ex_l1 : listOf 4 [] = (⟨false, [0, 1, 2, 3], [], []⟩, 0) := by kernel_rfl
theorem ex_l2 : listOf 4 [2] = (⟨false, [0, 1], [], []⟩, 0) := by kernel_rfl
theorem ex_l3 : listOf 2 [2, 1, 1] = (⟨true, [], [0, 1], []⟩, 0) := by kernel_rfl

set_option maxRecDepth 100000 in
set_option maxHeartbeats 3200000 in
theorem awake_any (w : World) (htab : Tab w) : Calls Tryd.prog 15 #[] w (RetV w (.bool true)) := by
  go_enter Tryd.func15, Tryd.ntmps15
  go_wp2_with fail
  have r1 := Rd.lit w 3 (.int .i64) [1, 2, 3, 4, 5] _ rfl (by simp)
  refine (Chunks_any _ _ [1, 2, 3, 4, 5] 2 _ r1 (by simp)).mono ?_
  rw [ex_chunks]
  rintro e w1 ⟨v, rfl, hf1, hR⟩
  have hF1 : Fr [] w w1 := Fr.trans (Fr.alloc (Fr.refl _ _) _) hf1
  clear r1 hf1
  obtain ⟨SA, sc, rows, rfl, hrl, hO, hrow⟩ := id hR
  go_wp2_with fail
  refine (List_any none 0 4 [] _ (Rd.nil_ _ _) (htab.fr hF1)).mono ?_
  rw [ex_l1]
  rintro e w2 ⟨v2, rfl, hf2, A1, a1, B1, b1, C1, c1, rfl, ⟨hq1, _⟩, ⟨hq2, _⟩, hq3, _⟩
  have hF2 := hF1.trans hf2
  have hR2 := hR.fr0 hf2
  have hQ2 := (Blk.new w2 34 #[.bool false, .slice A1 4 a1, .slice B1 0 b1, .slice C1 0 c1] _ rfl).alloc (.cells #[.int .u8 2] 39)
  clear hR hf2 hF1 hO hrow
  go_wp2_with fail
  have r2 : Rd ((w2.alloc (.cells #[.bool false, .slice A1 4 a1, .slice B1 0 b1, .slice C1 0 c1] 34)).alloc (.cells #[.int .u8 2] 39)) (.int .u8) (some ⟨w2.heap.size + 1, 0, none⟩) 1 [2] := Rd.lit (w2.alloc (.cells #[.bool false, .slice A1 4 a1, .slice B1 0 b1, .slice C1 0 c1] 34)) 39 (.int .u8) [2] _ (by simp) (by simp)
  have hFa : Fr [] w2 ((w2.alloc (.cells #[.bool false, .slice A1 4 a1, .slice B1 0 b1, .slice C1 0 c1] 34)).alloc (.cells #[.int .u8 2] 39)) := (by repeat (first | exact Fr.refl _ _ | assumption | apply Fr.drewN | apply Fr.drew | apply Fr.alloc | refine Fr.setCell ?_ (by simp) _))
  refine (List_any _ _ 4 [2] _ r2 (htab.fr (hF2.trans hFa))).mono ?_
  rw [ex_l2]
  rintro e w3 ⟨v3, rfl, hf3, A2, a2, B2, b2, C2, c2, rfl, ⟨hp1, _⟩, ⟨hp2, _⟩, hp3, _⟩
  have hF3 := (hF2.trans hFa).trans hf3
  have hR3 := (hR2.fr0 hFa).fr0 hf3
  have hx1 := (hq1.fr0 hFa).fr0 hf3
  have hQ3 := (hQ2.fr hf3 (by simp)).alloc (.cells #[.bool false, .slice A2 2 a2, .slice B2 0 b2, .slice C2 0 c2] 34) |>.alloc (.cells #[.int .u8 2, .int .u8 1, .int .u8 1] 39)
  have hP3 := (Blk.new w3 34 #[.bool false, .slice A2 2 a2, .slice B2 0 b2, .slice C2 0 c2] _ rfl).alloc (.cells #[.int .u8 2, .int .u8 1, .int .u8 1] 39)
  clear hR2 hf3 hF2 hFa hQ2 r2 hq1 hq2 hq3
  go_wp2_with fail
  have r3 : Rd ((w3.alloc (.cells #[.bool false, .slice A2 2 a2, .slice B2 0 b2, .slice C2 0 c2] 34)).alloc (.cells #[.int .u8 2, .int .u8 1, .int .u8 1] 39)) (.int .u8) (some ⟨w3.heap.size + 1, 0, none⟩) 3 [2, 1, 1] := Rd.lit (w3.alloc (.cells #[.bool false, .slice A2 2 a2, .slice B2 0 b2, .slice C2 0 c2] 34)) 39 (.int .u8) [2, 1, 1] _ (by simp) (by simp)
  have hFb : Fr [] w3 ((w3.alloc (.cells #[.bool false, .slice A2 2 a2, .slice B2 0 b2, .slice C2 0 c2] 34)).alloc (.cells #[.int .u8 2, .int .u8 1, .int .u8 1] 39)) := (by repeat (first | exact Fr.refl _ _ | assumption | apply Fr.drewN | apply Fr.drew | apply Fr.alloc | refine Fr.setCell ?_ (by simp) _))
  refine (List_any _ _ 2 [2, 1, 1] _ r3 (htab.fr (hF3.trans hFb))).mono ?_
  rw [ex_l3]
  rintro e w4 ⟨v4, rfl, hf4, A3, a3, B3, b3, C3, c3, rfl, ⟨hs1, _⟩, ⟨hs2, _⟩, hs3, _⟩
  have hFc : Fr [] w4 (w4.alloc (.cells #[.bool true, .slice A3 0 a3, .slice B3 2 b3, .slice C3 0 c3] 34)) := (by repeat (first | exact Fr.refl _ _ | assumption | apply Fr.drewN | apply Fr.drew | apply Fr.alloc | refine Fr.setCell ?_ (by simp) _))
  have hf4c := (hFb.trans hf4).trans hFc
  have hF4 := hF3.trans hf4c
  have hR4 := hR3.fr0 hf4c
  have hx2 := hx1.fr0 hf4c
  have hx3 := hp1.fr0 hf4c
  have hx4 := hs2.fr0 hFc
  have hQ4 := (hQ3.fr hf4 (by simp)).alloc (.cells #[.bool true, .slice A3 0 a3, .slice B3 2 b3, .slice C3 0 c3] 34)
  have hP4 := (hP3.fr hf4 (by simp)).alloc (.cells #[.bool true, .slice A3 0 a3, .slice B3 2 b3, .slice C3 0 c3] 34)
  have hS4 := Blk.new w4 34 #[.bool true, .slice A3 0 a3, .slice B3 2 b3, .slice C3 0 c3] _ rfl
  obtain ⟨SA4, sc4, rows4, hv4, hrl, hO, hrow⟩ := hR4
  injection hv4 with hva hvb hvc
  subst hva hvc
  obtain ⟨D1, d1, hd1, ho1⟩ := hrow 0 [1, 2] rfl
  obtain ⟨D2, d2, hd2, ho2⟩ := hrow 1 [3, 4, 5] rfl
  obtain ⟨g, rfl, _, _⟩ := own_some hO (by simp)
  have m0 := (hO.cellAt 0 (by simp)).trans (show _ = some (Value.slice D1 2 d1) by rw [List.getElem?_map, hd1]; first | done | rfl)
  have m1 := (hO.cellAt 1 (by simp)).trans (show _ = some (Value.slice D2 3 d2) by rw [List.getElem?_map, hd2]; first | done | rfl)
  have y1 : Rd _ (.int .i64) D1 d1 [1, 2] := (Rd.of_own ho1).2
  have y2 : Rd _ (.int .i64) D2 d2 [3, 4, 5] := (Rd.of_own ho2).2
  have z1 := hQ4.lt
  have z2 := hP4.lt
  have z3 := hS4.lt
  have q0 := hQ4.cell 0 rfl
  have q1 := hQ4.cell 1 rfl
  have p1 := hP4.cell 1 rfl
  have s0 := hS4.cell 0 rfl
  have s2 := hS4.cell 2 rfl
  clear hx1 hQ3 hP3 r3 hFb hF3 hf4 hs1 hs2 hs3 hp1 hp2 hp3 hR3 hO hrow ho1 ho2 hd1 hd2 hFc hf4c
  go_wp2_with fail
  have hz : (w4.alloc (.cells #[.bool true, .slice A3 0 a3, .slice B3 2 b3, .slice C3 0 c3] 34)).heap.size = w4.heap.size + 1 := by simp
  generalize (w4.alloc (.cells #[.bool true, .slice A3 0 a3, .slice B3 2 b3, .slice C3 0 c3] 34)) = W4 at *
  have HZ := Lib.hid hz
  have z4 : w4.heap.size < W4.heap.size + 1 := by omega
  have z5 : w4.heap.size < W4.heap.size + 1 + 1 := by omega
  have z6 : w4.heap.size < W4.heap.size := by omega
  clear hz
  refine (lawints_any D1 _ d1 2 [1, 2] [1, 2] _ (y1.fr0 (by repeat (first | exact Fr.refl _ _ | assumption | apply Fr.drewN | apply Fr.drew | apply Fr.alloc | refine Fr.setCell ?_ (by simp) _))) (Rd.lit W4 3 (.int .i64) [1, 2] _ HZ.out.symm (by simp))).mono ?_
  rintro e w5 ⟨rfl, n5, rfl⟩
  go_wp2_with fail
  refine (lawints_any D2 _ d2 3 [3, 4, 5] [3, 4, 5] _ (y2.fr0 (by repeat (first | exact Fr.refl _ _ | assumption | apply Fr.drewN | apply Fr.drew | apply Fr.alloc | refine Fr.setCell ?_ (by simp) _))) ((Rd.lit (W4.alloc (.cells #[.int .i64 1, .int .i64 2] 3)) 3 (.int .i64) [3, 4, 5] _ (by simp) (by simp)).fr0 (by repeat (first | exact Fr.refl _ _ | assumption | apply Fr.drewN | apply Fr.drew | apply Fr.alloc | refine Fr.setCell ?_ (by simp) _)))).mono ?_
  rintro e w6 ⟨rfl, n6, rfl⟩
  go_wp2_with fail
  refine (lawints_any A2 _ a2 2 [0, 1] [0, 1] _ (hx3.fr0 (by repeat (first | exact Fr.refl _ _ | assumption | apply Fr.drewN | apply Fr.drew | apply Fr.alloc | refine Fr.setCell ?_ (by simp) _))) ((Rd.lit ((W4.alloc (.cells #[.int .i64 1, .int .i64 2] 3)).alloc (.cells #[.int .i64 3, .int .i64 4, .int .i64 5] 3)) 3 (.int .i64) [0, 1] _ (by simp) (by simp)).fr0 (by repeat (first | exact Fr.refl _ _ | assumption | apply Fr.drewN | apply Fr.drew | apply Fr.alloc | refine Fr.setCell ?_ (by simp) _)))).mono ?_
  rintro e w7 ⟨rfl, n7, rfl⟩
  go_wp2_with fail
  refine (lawints_any B3 _ b3 2 [0, 1] [0, 1] _ (hx4.fr0 (by repeat (first | exact Fr.refl _ _ | assumption | apply Fr.drewN | apply Fr.drew | apply Fr.alloc | refine Fr.setCell ?_ (by simp) _))) ((Rd.lit (((W4.alloc (.cells #[.int .i64 1, .int .i64 2] 3)).alloc (.cells #[.int .i64 3, .int .i64 4, .int .i64 5] 3)).alloc (.cells #[.int .i64 0, .int .i64 1] 3)) 3 (.int .i64) [0, 1] _ (by simp) (by simp)).fr0 (by repeat (first | exact Fr.refl _ _ | assumption | apply Fr.drewN | apply Fr.drew | apply Fr.alloc | refine Fr.setCell ?_ (by simp) _)))).mono ?_
  rintro e w8 ⟨rfl, n8, rfl⟩
  go_wp2
  go_ret
  exact ⟨by simp, hF4.trans (by repeat (first | exact Fr.refl _ _ | assumption | apply Fr.drewN | apply Fr.drew | apply Fr.alloc | refine Fr.setCell ?_ (by simp) _))⟩
end Go.Proofs.YtjpbmbonccenfaaDoor
