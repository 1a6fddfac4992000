/- Texts of this seat, one behind the other: Tr, Chg, AllN, RWout. -/
import Derived.Test.YtippadnbngcjlaaGreatDoorh118
import Derived.Test.YtippadnbngcjlaaGreatDoorh121
import Derived.Test.YtippadnbngcjlaaGreatDoorh122
import Derived.Deep.LoopGhost
namespace Go.Proofs.YtippadnbngcjlaaGreatDoor
set_option linter.unusedVariables false

/- Searches as trees of questions: what they ask, how they end, when an oracle answers. -/
section
open Go.RowKit
inductive Tr (Q A α : Type) where
 | ret (a : α) : Tr Q A α
 | ask (q : Q) (k : A → Tr Q A α) : Tr Q A α
namespace Tr
section
variable {Q A α S : Type}
def go (step : S → Q → Option (A × S)) : Tr Q A α → S → Q ⊕ (α × S)
  | .ret a, s => .inr (a, s)
  | .ask q k, s => match step s q with
    | none => .inl q
    | some (v, s') => (k v).go step s'
def res (o : Q → A) : Tr Q A α → α
 | .ret a => a
 | .ask q k => (k (o q)).res o
def All (P : Q → Prop) : Tr Q A α → Prop
 | .ret _ => True
 | .ask q k => P q ∧ ∀ a, (k a).All P
def Ends (P : α → Prop) : Tr Q A α → Prop
 | .ret a => P a
 | .ask _ k => ∀ a, (k a).Ends P
theorem go_ret (step : S → Q → Option (A × S)) (a : α) (s : S) : (Tr.ret a).go step s = .inr (a, s) := rfl
theorem go_none {step : S → Q → Option (A × S)} {q : Q} {k : A → Tr Q A α} {s : S} (h : step s q = none) : (Tr.ask q k).go step s = .inl q := by simp [go, h]
theorem go_some {step : S → Q → Option (A × S)} {q : Q} {k : A → Tr Q A α} {s s' : S} {v : A} (h : step s q = some (v, s')) : (Tr.ask q k).go step s = (k v).go step s' := by simp [go, h]
theorem ends_go {P : α → Prop} {step : S → Q → Option (A × S)} {a : α} {s' : S} : ∀ (t : Tr Q A α) (s : S), t.Ends P → t.go step s = .inr (a, s') → P a
  | .ret b, s, h, hg => by
    simp only [go, Sum.inr.injEq, Prod.mk.injEq] at hg
    exact hg.1 ▸ h
  | .ask q k, s, h, hg => by
    unfold go at hg
    rcases hs : step s q with _ | ⟨v, s1⟩
    · simp [hs] at hg
    · simp only [hs] at hg
      exact ends_go (k v) s1 (h v) hg
theorem all_go {P : Q → Prop} {step : S → Q → Option (A × S)} {q0 : Q} : ∀ (t : Tr Q A α) (s : S), t.All P → t.go step s = .inl q0 → P q0
  | .ret b, s, h, hg => by simp [go] at hg
  | .ask q k, s, h, hg => by
    unfold go at hg
    rcases hs : step s q with _ | ⟨v, s1⟩
    · simp only [hs, Sum.inl.injEq] at hg
      exact hg ▸ h.1
    · simp only [hs] at hg
      exact all_go (k v) s1 (h.2 v) hg
end
end Tr
def askS (ans : List Int) (s : Nat × Kn) (q : List Int) : Option (Int × (Nat × Kn)) := (askV ans s.1 s.2 q).map fun r => (r.1, (r.2.1, r.2.2))
theorem askS_none {ans : List Int} {u : Nat} {kn : Kn} {q : List Int} (h : askV ans u kn q = none) : askS ans (u, kn) q = none := by simp [askS, h]
theorem askS_some {ans : List Int} {u u' : Nat} {kn kn' : Kn} {q : List Int} {v : Int} (h : askV ans u kn q = some (v, u', kn')) : askS ans (u, kn) q = some (v, (u', kn')) := by simp [askS, h]
section
variable {α : Type}
end
abbrev Res := Int × List Int × List Int
def qOf (ans : List Int) (t : Tr (List Int) Int Res) : Qst × Int :=
 if 4096 < ans.length then (qNone, 3)
 else match t.go (askS ans) (0, []) with
  | .inl q => (⟨false, q, [], []⟩, 0)
  | .inr ((er, kept, pass), (u, _)) => endOf false [] er (decide (u < ans.length)) kept pass
theorem nodup_sub_len' {β : Type} [DecidableEq β] : ∀ {xs ys : List β}, xs.Nodup → (∀ x ∈ xs, x ∈ ys) → xs.length ≤ ys.length
  | [], ys, _, _ => by simp
  | x :: xs, ys, hn, h => by
    obtain ⟨h1, h2⟩ := List.nodup_cons.1 hn
    have hx := h x (by simp)
    have := nodup_sub_len' (xs := xs) (ys := ys.erase x) h2 fun y hy => by
      have hne : y ≠ x := fun e => h1 (by rw [← e]; exact hy)
      exact (List.mem_erase_of_ne hne).2 (h y (by simp [hy]))
    rw [List.length_erase_of_mem hx] at this
    have := List.length_pos_of_mem hx
    simp; omega
end

/- Changes: what is left without a change, closed sets as plain functions; the search for changes as a tree of questions. -/
section
open Go.RowKit
def GoneP (L : List (List Int)) (set : List Int) (i x : Int) : Prop := ∀ D : Int → Bool, D i = true → (∀ x ∈ set, ∀ y ∈ needsOf L x, D y = true → D x = true) → D x = true
open Classical in
noncomputable def goneB (L : List (List Int)) (set : List Int) (i x : Int) : Bool := decide (GoneP L set i x)
theorem goneB_iff {L : List (List Int)} {set : List Int} {i x : Int} : goneB L set i x = true ↔ GoneP L set i x := by unfold goneB; simp
theorem gone_is (L : List (List Int)) (set : List Int) (i : Int) : IsGn L set i (goneB L set i) :=
 ⟨goneB_iff.2 fun D h _ => h, fun x hx y hy hg => goneB_iff.2 fun D h1 h2 => h2 x hx y hy (goneB_iff.1 hg D h1 h2), fun D h1 h2 x hg => goneB_iff.1 hg D h1 h2⟩
noncomputable def wout (L : List (List Int)) (set : List Int) (i : Int) : List Int := set.filter fun x => !goneB L set i x
theorem mem_wout {L : List (List Int)} {set : List Int} {i x : Int} : x ∈ wout L set i ↔ x ∈ set ∧ goneB L set i x = false := by unfold wout; simp
theorem wout_not (L : List (List Int)) (set : List Int) (i : Int) : i ∉ wout L set i := fun h => by
 have := (mem_wout.1 h).2
 rw [(gone_is L set i).base] at this
 cases this
theorem wout_sorted {set : List Int} (L : List (List Int)) (i : Int) (h : set.Pairwise (· < ·)) : (wout L set i).Pairwise (· < ·) := h.filter _
theorem wout_closed {L : List (List Int)} {set : List Int} {i : Int} (hs : isClosedB L set = true) : isClosedB L (wout L set i) = true := by
 rw [isClosed_iff] at *
 intro x hx y hy
 obtain ⟨h1, h2⟩ := mem_wout.1 hx
 refine mem_wout.2 ⟨hs x h1 y hy, ?_⟩
 rcases hb : goneB L set i y with _ | _
 ·rfl
 ·rw [(gone_is L set i).step x h1 y hy hb] at h2; cases h2
theorem wout_most {L : List (List Int)} {set z : List Int} {i : Int} (hz : isClosedB L z = true) (hs : ∀ x ∈ z, x ∈ set) (hi : i ∉ z) : ∀ x ∈ z, x ∈ wout L set i := fun x hx => by
 refine mem_wout.2 ⟨hs x hx, ?_⟩
 rcases hb : goneB L set i x with _ | _
 ·rfl
 ·have := goneB_iff.1 hb (fun y => decide (y ∉ z)) (by simpa using hi) (fun a ha y hy hD => by
   simp only [decide_eq_true_eq] at hD ⊢
   exact fun haz => hD (isClosed_iff.1 hz a haz y hy))
  simp at this
  exact absurd hx this
def CloP (L : List (List Int)) (set : List Int) (x : Int) : Prop := ∀ D : Int → Bool, (∀ x ∈ set, D x = true) → (∀ x, D x = true → ∀ y ∈ needsOf L x, D y = true) → D x = true
open Classical in
noncomputable def clo (L : List (List Int)) (set : List Int) : List Int := pickedOf ((List.range L.length).map fun (k : Nat) => decide (CloP L set (k : Int)))
def upTo (n : Nat) : List Int := (List.range n).map fun (k : Nat) => (k : Int)
theorem upTo_length (n : Nat) : (upTo n).length = n := by simp [upTo]
theorem mem_upTo {n : Nat} {x : Int} : x ∈ upTo n ↔ 0 ≤ x ∧ x < n := by
 unfold upTo
 rw [List.mem_map]
 constructor
 ·rintro ⟨k, hk, rfl⟩
  have := List.mem_range.1 hk
  omega
 ·intro h
  exact ⟨x.toNat, by simp; omega, by omega⟩
theorem upTo_sorted (n : Nat) : (upTo n).Pairwise (· < ·) := by
 unfold upTo
 rw [List.pairwise_map]
 exact List.pairwise_lt_range.imp (by omega)
theorem upTo_set (n : Nat) : isSet n (upTo n) = true := isSet_iff.2 ⟨fun x hx => mem_upTo.1 hx, upTo_sorted n⟩
theorem upTo_succ (n : Nat) : upTo (n + 1) = upTo n ++ [(n : Int)] := by unfold upTo; rw [List.range_succ]; simp
theorem needsOf_in {L : List (List Int)} (h : checkNeeds L = 0) {x : Int} (hx : 0 ≤ x ∧ x < L.length) : isSet L.length (needsOf L x) = true := by
 unfold needsOf
 have hlt : x.toNat < L.length := by omega
 rw [List.getD_eq_getElem?_getD, List.getElem?_eq_getElem hlt]
 exact (needs_facts h).2 _ (List.getElem_mem hlt)
end

/- The set of n items: All of the reference, whole of the program. -/
section
open Go.RowKit
set_option maxHeartbeats 800000 in
set_option maxRecDepth 20000 in
theorem whole_any (n : Int) (w : World) (hn : n ≤ 1000000) : Calls Tryz.prog 79 #[.int .i64 n] w (RetN w 3 (upTo n.toNat)) := by
 by_cases hneg : n < 0
 ·have hb1 : max n 0 = 0 := by omega
  have HN := Lib.hid hneg
  clear hneg hn
  have h0 : Hid (upTo n.toNat = []) := by show _ = _; have := HN.out; rw [show n.toNat = 0 by omega]; rfl
  go_enter Tryz.func79, Tryz.ntmps79
  go_wp2_with (at_make; refine wpList_make0 rfl _ _ _ rfl elemInts 0 rfl rfl (by omega) ?_; intro w0 hown0 hg0)
  go_loopw [3, 10] (fun v i wr => i = .int .i64 (0 : Nat) ∧ GathN w 3 [] v wr) (fun _ i _ => 0)
  case atStart => exact ⟨rfl, GathN.made (Fr.refl _ _) hown0 hg0 rfl⟩
  case round =>
   clear hown0 hg0
   obtain ⟨rfl, A1, c1, rfl, hown, hf⟩ := hrel
   go_wp2
   go_ret
   exact GathN.ret hf hown (by rw [h0.out])
 ·obtain ⟨m, rfl⟩ : ∃ m : Nat, n = m := ⟨n.toNat, by omega⟩
  rw [Int.toNat_natCast]
  go_enter Tryz.func79, Tryz.ntmps79
  go_wp2_with (at_make; refine wpList_make0 rfl _ _ _ rfl elemInts m rfl rfl (by omega) ?_; intro w0 hown0 hg0)
  go_loopw [3, 10] (fun v i wr => ∃ k : Nat, k ≤ m ∧ i = .int .i64 k ∧ GathN w 3 (upTo k) v wr) (fun _ i _ => m - (intOf i).toNat)
  case atStart => exact ⟨0, Nat.zero_le _, rfl, GathN.made (Fr.refl _ _) hown0 hg0 rfl⟩
  case round =>
   clear hown0 hg0
   obtain ⟨k, hk, rfl, A1, c1, rfl, hown, hf⟩ := hrel
   have hlen := Lib.hid (upTo_length k)
   rw [hlen.out] at hown ⊢
   by_cases hlt : k < m
   ·go_wp2_with (at_builtin; refine wpList_append_rd rfl (.tmp 13) (.tmp 15) _ rfl elemInts (.slice A1 k c1) ((upTo k).map (.int .i64)) rfl (hown.alloc _) (some ⟨wr.heap.size, 0, none⟩) 1 [(k : Int)] (.int .i64) rfl (Rd.one wr _ _ _) one_i64 (by simp; omega) (by simp; have := hf.size; omega) ?_; intro A2 c2 w2 hown2 hg2 hat2)
    go_roundw
    case rel => exact ⟨k + 1, by omega, by go_num, by rw [show k + 1 = k + [(k : Int)].length from rfl]; exact GathN.snoc (hf.alloc _) (hown.alloc _) hg2 hown2 (by simp [upTo_succ])⟩
    case measure => simp [intOf]; omega
   ·obtain rfl : k = m := by omega
    go_wp2
    go_ret
    exact GathN.ret hf hown rfl
end

/- without and Without of the reference. -/
section
open Go.RowKit
def keepC (L : List (List Int)) (out xs : List Int) : List Int := xs.filter fun x => decide (minus (needsOf L x) out = [])
structure WOk (L : List (List Int)) (set : List Int) (i : Int) (out : List Int) : Prop where
 ok : isSet L.length out = true
 sub : ∀ x ∈ out, x ∈ set
 no : i ∉ out
 most : ∀ x ∈ wout L set i, x ∈ out
theorem WOk.start {L : List (List Int)} {set : List Int} {i : Int} (h : isSet L.length set = true) : WOk L set i (minus set [i]) :=
 ⟨minus_set _ h, fun x hx => (mem_minus.1 hx).1, fun hi => (mem_minus.1 hi).2 (by simp), fun x hx => mem_minus.2 ⟨(mem_wout.1 hx).1, fun he => by
  simp at he
  subst he
  exact wout_not L set x hx⟩⟩
theorem WOk.next {L : List (List Int)} {set out : List Int} {i : Int} (h : WOk L set i out) (hc : isClosedB L set = true) : WOk L set i (keepC L out out) :=
 ⟨by
  have := isSet_iff.1 h.ok
  exact isSet_iff.2 ⟨fun x hx => this.1 x (List.mem_filter.1 hx).1, this.2.filter _⟩, fun x hx => h.sub x (List.mem_filter.1 hx).1, fun hi => h.no (List.mem_filter.1 hi).1, fun x hx => by
  refine List.mem_filter.2 ⟨h.most x hx, ?_⟩
  simp only [decide_eq_true_eq]
  exact minus_nil_iff.2 fun y hy => h.most y (isClosed_iff.1 (wout_closed hc) x hx y hy)⟩
theorem WOk.lt {L : List (List Int)} {out : List Int} (hn : isClosedB L out = false) : (keepC L out out).length < out.length := by
 unfold keepC
 rw [List.length_filter_lt_length_iff_exists]
 unfold isClosedB at hn
 obtain ⟨x, hx, h⟩ := List.all_eq_false.1 hn
 exact ⟨x, hx, by simpa using h⟩
theorem WOk.done {L : List (List Int)} {set out : List Int} {i : Int} (h : WOk L set i out) (hs : isSet L.length set = true) (hc : isClosedB L out = true) : out = wout L set i :=
 sorted_ext (isSet_iff.1 h.ok).2 (wout_sorted L i (isSet_iff.1 hs).2) fun x => ⟨wout_most hc h.sub h.no x, h.most x⟩
end

end Go.Proofs.YtippadnbngcjlaaGreatDoor
