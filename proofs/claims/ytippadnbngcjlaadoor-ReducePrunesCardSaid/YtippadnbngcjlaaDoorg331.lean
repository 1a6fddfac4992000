/- Texts of this seat, one behind the other: RClo. -/
import Derived.Test.YtippadnbngcjlaaDoorg330
import Derived.Test.YtippadnbngcjlaaDoorg317
/- Without and Close: of the program and of the reference, as plain functions. -/
namespace Go.Proofs.YtippadnbngcjlaaDoor
open Go.RowKit
set_option linter.unusedVariables false

theorem mem_clo {L : List (List Int)} {set : List Int} {x : Int} : x ∈ clo L set ↔ (0 ≤ x ∧ x < L.length) ∧ CloP L set x := by
  unfold clo
  rw [mem_picked]
  constructor
  · intro h
    have h1 := inB_lt h
    simp at h1
    obtain ⟨k, rfl⟩ : ∃ k : Nat, x = k := ⟨x.toNat, by omega⟩
    have hk : k < L.length := by omega
    refine ⟨h1, ?_⟩
    rw [inB_at (b := _) (List.getElem?_eq_getElem (by simpa using hk))] at h
    simpa using h
  · rintro ⟨h1, h⟩
    obtain ⟨k, rfl⟩ : ∃ k : Nat, x = k := ⟨x.toNat, by omega⟩
    have hk : k < L.length := by omega
    rw [inB_at (b := _) (List.getElem?_eq_getElem (by simpa using hk))]
    simpa using h
theorem clo_sorted (L : List (List Int)) (set : List Int) : (clo L set).Pairwise (· < ·) := picked_sorted _
/-- What holds all the time while a set is closed. -/
structure COk (L : List (List Int)) (set out : List Int) : Prop where
  ok : isSet L.length out = true
  base : ∀ x ∈ set, x ∈ out
  sub : ∀ x ∈ out, x ∈ clo L set
theorem COk.start {L : List (List Int)} {set : List Int} (h : isSet L.length set = true) : COk L set set :=
  ⟨h, fun _ hx => hx, fun x hx => mem_clo.2 ⟨(isSet_iff.1 h).1 x hx, fun D h1 _ => h1 x hx⟩⟩
theorem COk.add {L : List (List Int)} {set out : List Int} {x : Int} (h : COk L set out) (hk : checkNeeds L = 0) (hx : x ∈ out) : COk L set (plus out (needsOf L x)) := by
  have hr := (isSet_iff.1 h.ok).1 x hx
  have hn := needsOf_in hk hr
  refine ⟨plus_set h.ok hn, fun y hy => mem_plus.2 (.inl (h.base y hy)), fun y hy => ?_⟩
  rcases mem_plus.1 hy with hy | hy
  · exact h.sub y hy
  · exact mem_clo.2 ⟨(isSet_iff.1 hn).1 y hy, fun D h1 h2 => h2 x ((mem_clo.1 (h.sub x hx)).2 D h1 h2) y hy⟩
theorem COk.done {L : List (List Int)} {set out : List Int} (h : COk L set out) (hc : isClosedB L out = true) : out = clo L set :=
  sorted_ext (isSet_iff.1 h.ok).2 (clo_sorted L set) fun x => ⟨h.sub x, fun hx => by
    have := (mem_clo.1 hx).2 (fun y => decide (y ∈ out)) (fun y hy => by simpa using h.base y hy) (fun y hy z hz => by
      simp only [decide_eq_true_eq] at hy ⊢
      exact isClosed_iff.1 hc y hy z hz)
    simpa using this⟩
/-- A pass over all places has come to place k. -/
structure CPass (L : List (List Int)) (out cur : List Int) (k : Nat) : Prop where
  sub : ∀ x ∈ out, x ∈ cur
  got : ∀ x ∈ out, x < k → ∀ y ∈ needsOf L x, y ∈ cur
theorem CPass.start (L : List (List Int)) (out : List Int) {n : Int} (h : isSet n out = true) : CPass L out out 0 :=
  ⟨fun _ hx => hx, fun x hx hk => by have := ((isSet_iff.1 h).1 x hx).1; omega⟩
theorem CPass.add {L : List (List Int)} {out cur : List Int} {k : Nat} (h : CPass L out cur k) : CPass L out (plus cur (needsOf L k)) (k + 1) :=
  ⟨fun x hx => mem_plus.2 (.inl (h.sub x hx)), fun x hx hk y hy => by
    by_cases e : x = k
    · subst e; exact mem_plus.2 (.inr hy)
    · exact mem_plus.2 (.inl (h.got x hx (by omega) y hy))⟩
theorem CPass.skip {L : List (List Int)} {out cur : List Int} {k : Nat} (h : CPass L out cur k) (hk : (k : Int) ∉ cur) : CPass L out cur (k + 1) :=
  ⟨h.sub, fun x hx hx2 y hy => by
    by_cases e : x = k
    · subst e; exact absurd (h.sub _ hx) hk
    · exact h.got x hx (by omega) y hy⟩
theorem CPass.lt {L : List (List Int)} {out cur : List Int} {n : Int} (h : CPass L out cur L.length) (ho : isSet L.length out = true) (hn : isClosedB L out = false) : out.length < cur.length := by
  unfold isClosedB at hn
  obtain ⟨x, hx, hx2⟩ := List.all_eq_false.1 hn
  simp only [decide_eq_true_eq] at hx2
  obtain ⟨y, hy⟩ := List.exists_mem_of_ne_nil _ hx2
  obtain ⟨h1, h2⟩ := mem_minus.1 hy
  have hxr := (isSet_iff.1 ho).1 x hx
  have := nodup_sub_len (xs := y :: out) (ys := cur) (List.nodup_cons.2 ⟨h2, sorted_nodup (isSet_iff.1 ho).2⟩) (fun z hz => by
    rcases List.mem_cons.1 hz with rfl | hz
    · exact h.got x hx hxr.2 _ h1
    · exact h.sub z hz)
  simp at this
  omega
def RCInv (w : World) (L : List (List Int)) (set : List Int) (t : Nat) (v : Value) (wr : World) : Prop :=
  ∃ out, GathN w 3 out v wr ∧ Hid (COk L set out) ∧ L.length < t + out.length

end Go.Proofs.YtippadnbngcjlaaDoor
