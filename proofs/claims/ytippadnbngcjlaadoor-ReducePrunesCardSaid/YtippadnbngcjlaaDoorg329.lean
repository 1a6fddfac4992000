/- Texts of this seat, one behind the other: Runs, LClosed. -/
import Derived.Test.YtippadnbngcjlaaDoorg314
import Derived.Test.YtippadnbngcjlaaDoorg327
import Derived.Test.YtippadnbngcjlaaDoorg33
/- The examples of the chapter: runs. -/
namespace Go.Proofs.YtippadnbngcjlaaDoor
open Go.RowKit
set_option linter.unusedVariables false

theorem lawints_any (A B : Option Addr) (ca cb : Nat) (xs ys : List Int) (w : World) (ha : Rd w (.int .i64) A ca xs) (hb : Rd w (.int .i64) B cb ys) :
    Calls Tryd.prog 21 #[.slice A xs.length ca, .slice B ys.length cb] w (RetQ w (.bool (decide (xs = ys)))) := by
  go_enter Tryd.func21, Tryd.ntmps21
  go_wp2_with fail
  refine (Ints_any A B ca cb xs ys w ha hb).mono ?_
  rintro e w1 ⟨rfl, n1, rfl⟩
  go_wp2
  go_ret
  exact ⟨rfl, n1, rfl⟩

/-- A slice that has just been written out. -/
theorem Rd.lit {α : Type} (w : World) (t : TypeId) (enc : α → Value) (xs : List α) (H : Nat) (hH : H = w.heap.size) (hm : xs.length ≤ 1000) : Rd (w.alloc (.cells (xs.map enc).toArray t)) enc (some ⟨H, 0, none⟩) xs.length xs :=
  Rd.of_blk (Blk.new w t _ H hH) (by unfold maxLen; omega)
theorem Rp.lit (w : World) (t : TypeId) (ps : List Pk) (H : Nat) (hH : H = w.heap.size) (hm : ps.length ≤ 1000) : Rp (w.alloc (.cells (flat ps).toArray t)) (some ⟨H, 0, none⟩) ps.length ps := by
  refine ⟨Nat.le_refl _, by unfold maxLen; omega, fun _ => ⟨H, 0, rfl, fun k p hp => ?_⟩⟩
  have hb := Blk.new w t (flat ps).toArray H hH
  have h0 := flat_at0 ps k
  have h1 := flat_at1 ps k
  rw [hp] at h0 h1
  exact ⟨hb.cell (0 + k * 2) (by simpa using h0), hb.cell (0 + k * 2 + 1) (by simpa using h1)⟩

theorem ex_bisect : bisect 5 1 [1, 2, 3] = (⟨false, [3], [], []⟩, 0) := by decide
theorem ex_normal : normal [(0, 2), (0, 1), (1, 3)] = ([(0, 3), (1, 3)], 0) := by decide
theorem ex_preempt : preemptions [(0, 1), (1, 2), (0, 4)] = ([0], 0) := by decide
theorem ex_needs : checkNeeds [[], [0], [1]] = 0 := by decide
theorem ex_set : isSet 3 [2] = true := by decide
theorem ex_closed {bs : List Bool} (hl : bs.length = 3) (h : IsCl [[], [0], [1]] [2] (inB bs)) : pickedOf bs = [0, 1, 2] := by
  have h2 := h.base 2 (by simp)
  have h1 := h.step 2 h2 1 (by simp [needsOf])
  have h0 := h.step 1 h1 0 (by simp [needsOf])
  match bs, hl with
  | [a, b, c], _ =>
    simp [inB] at h0 h1 h2
    subst h0 h1 h2
    decide

end Go.Proofs.YtippadnbngcjlaaDoor

/- ReduceClosed: the plain facts, the walk. -/
namespace Go.Proofs.YtippadnbngcjlaaDoor
open Go.RowKit
set_option linter.unusedVariables false

theorem cl_closed {L : List (List Int)} {set : List Int} {bs : List Bool} (h : IsCl L set (inB bs)) : isClosedB L (pickedOf bs) = true :=
  isClosed_iff.2 fun x hx y hy => mem_picked.2 (h.step x (mem_picked.1 hx) y hy)
theorem cl_sub {L : List (List Int)} {set other : List Int} {bs cs : List Bool} (h : IsCl L set (inB bs)) (k : IsCl L other (inB cs)) (hs : minus set (pickedOf cs) = []) : minus (pickedOf bs) (pickedOf cs) = [] := by
  rw [minus_nil_iff] at *
  intro x hx
  exact mem_picked.2 (h.least _ (fun z hz => mem_picked.1 (hs z hz)) k.step x (mem_picked.1 hx))
theorem gn_closed {L : List (List Int)} {a : List Int} {i : Int} {gs : List Bool} (ha : isClosedB L a = true) (h : IsGn L a i (inB gs)) : isClosedB L (minus a (pickedOf gs)) = true := by
  rw [isClosed_iff] at *
  intro x hx y hy
  obtain ⟨h1, h2⟩ := mem_minus.1 hx
  exact mem_minus.2 ⟨ha x h1 y hy, fun hg => h2 (mem_picked.2 (h.step x h1 y hy (mem_picked.1 hg)))⟩
theorem gn_most {L : List (List Int)} {a z : List Int} {i : Int} {gs : List Bool} (h : IsGn L a i (inB gs)) (hz : isClosedB L z = true) (hs : minus z a = []) (hi : i ∉ z) : minus z (minus a (pickedOf gs)) = [] := by
  rw [isClosed_iff] at hz
  rw [minus_nil_iff] at *
  intro x hx
  refine mem_minus.2 ⟨hs x hx, fun hg => ?_⟩
  have := h.least (fun x => decide (x ∉ z)) (by simpa using hi) (fun u hu y hy hyz => by
    simp only [decide_eq_true_eq] at hyz ⊢
    exact fun hu2 => hyz (hz u hu2 y hy)) x (mem_picked.1 hg)
  simp at this
  exact this hx
theorem minus_sub (a b : List Int) : minus (minus a b) a = [] := minus_nil_iff.2 fun x hx => (mem_minus.1 hx).1
theorem gn_not {L : List (List Int)} {a : List Int} {i : Int} {gs : List Bool} (h : IsGn L a i (inB gs)) : i ∉ minus a (pickedOf gs) := fun hi => (mem_minus.1 hi).2 (mem_picked.2 h.base)

end Go.Proofs.YtippadnbngcjlaaDoor
