/- Texts of this seat, one behind the other: Runs, LClosed. -/
import Derived.Test.YtippadnbngcjlaaGreatDoorh121
import Derived.Test.YtippadnbngcjlaaGreatDoorh117
import Derived.Test.YtippadnbngcjlaaGreatDoorh13
namespace Go.Proofs.YtippadnbngcjlaaGreatDoor
set_option linter.unusedVariables false

/- The examples of the chapter: runs. -/
section
open Go.RowKit
theorem lawints_any (A B : Option Addr) (ca cb : Nat) (xs ys : List Int) (w : World) (ha : Rd w (.int .i64) A ca xs) (hb : Rd w (.int .i64) B cb ys) :
  Calls Tryz.prog 22 #[.slice A xs.length ca, .slice B ys.length cb] w (RetQ w (.bool (decide (xs = ys)))) := by
 go_enter Tryz.func22, Tryz.ntmps22
 go_wp2_with fail
 refine (Ints_any A B ca cb xs ys w ha hb).mono ?_
 rintro e w1 ⟨rfl, n1, rfl⟩
 go_wp2
 go_ret
 exact ⟨rfl, n1, rfl⟩
theorem Rd.lit {α : Type} (w : World) (t : TypeId) (enc : α → Value) (xs : List α) (H : Nat) (hH : H = w.heap.size) (hm : xs.length ≤ 1000) : Rd (w.alloc (.cells (xs.map enc).toArray t)) enc (some ⟨H, 0, none⟩) xs.length xs :=
 Rd.of_blk (Blk.new w t _ H hH) (by unfold maxLen; omega)
theorem Rp.lit (w : World) (t : TypeId) (ps : List Pk) (H : Nat) (hH : H = w.heap.size) (hm : ps.length ≤ 1000) : Rp (w.alloc (.cells (flat ps).toArray t)) (some ⟨H, 0, none⟩) ps.length ps := by
 refine ⟨Nat.le_refl _, by unfold maxLen; omega, fun _ => ⟨H, 0, rfl, fun k p hp => ?_⟩⟩
 have hb := Blk.new w t (flat ps).toArray H hH
 have h0 := flat_at0 ps k
 have h1 := flat_at1 ps k
 rw [hp] at h0 h1
 exact ⟨hb.cell (0 + k * 2) (by simpa using h0), hb.cell (0 + k * 2 + 1) (by simpa using h1)⟩
end

/- ReduceClosed: the plain facts, the walk. -/
section
open Go.RowKit
end

end Go.Proofs.YtippadnbngcjlaaGreatDoor
