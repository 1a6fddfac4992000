/- Are two quests equal? -/
import Derived.Test.YtjpbmbonccenfaaEnd
namespace Go.Proofs.Ytjpbmbonccenfaa
open Go.RowKit
set_option linter.unusedVariables false

set_option maxHeartbeats 3200000 in
theorem SameQuest_any (p q : Qst) (A B C A' B' C' : Option Addr) (a b c a' b' c' : Nat) (w : World) (h1 : Rd w (.int .i64) A a p.ask) (h2 : Rd w (.int .i64) B b p.kept) (h3 : Rd w (.int .i64) C c p.pass)
    (k1 : Rd w (.int .i64) A' a' q.ask) (k2 : Rd w (.int .i64) B' b' q.kept) (k3 : Rd w (.int .i64) C' c' q.pass) :
    Calls Try.prog 12 #[.agg #[.bool p.done, .slice A p.ask.length a, .slice B p.kept.length b, .slice C p.pass.length c], .agg #[.bool q.done, .slice A' q.ask.length a', .slice B' q.kept.length b', .slice C' q.pass.length c']] w (RetV w (.bool (decide (p = q)))) := by
  have hf : ∀ o1 o2 : Obj, Fr [] w ((w.alloc o1).alloc o2) := fun o1 o2 => ((Fr.refl _ _).alloc _).alloc _
  by_cases e0 : p.done = q.done
  · have d0 : (p.done == q.done) = true := by simp [e0]
    have E0 := Lib.hid e0
    clear e0
    by_cases e1 : p.ask = q.ask
    · have d1 : decide (p.ask = q.ask) = true := by simp [e1]
      have E1 := Lib.hid e1
      clear e1
      by_cases e2 : p.kept = q.kept
      · have d2 : decide (p.kept = q.kept) = true := by simp [e2]
        have E2 := Lib.hid e2
        clear e2
        go_enter Try.func12, Try.ntmps12
        go_wp2_with fail
        refine (Ints_any _ _ _ _ _ _ _ (h1.fr0 (by repeat (first | exact Fr.refl _ _ | apply Fr.drewN | apply Fr.alloc))) (k1.fr0 (by repeat (first | exact Fr.refl _ _ | apply Fr.drewN | apply Fr.alloc)))).mono ?_
        rintro e w1 ⟨rfl, n1, rfl⟩
        go_wp2_with fail
        refine (Ints_any _ _ _ _ _ _ _ (h2.fr0 (by repeat (first | exact Fr.refl _ _ | apply Fr.drewN | apply Fr.alloc))) (k2.fr0 (by repeat (first | exact Fr.refl _ _ | apply Fr.drewN | apply Fr.alloc)))).mono ?_
        rintro e w2 ⟨rfl, n2, rfl⟩
        go_wp2_with fail
        refine (Ints_any _ _ _ _ _ _ _ (h3.fr0 (by repeat (first | exact Fr.refl _ _ | apply Fr.drewN | apply Fr.alloc))) (k3.fr0 (by repeat (first | exact Fr.refl _ _ | apply Fr.drewN | apply Fr.alloc)))).mono ?_
        rintro e w3 ⟨rfl, n3, rfl⟩
        go_wp2
        go_ret
        refine ⟨ret_bool ?_, by repeat (first | exact Fr.refl _ _ | apply Fr.drewN | apply Fr.alloc)⟩
        have := E0.out
        have h5 := E1.out
        have h6 := E2.out
        cases p; cases q; simp_all
      · have d2 : decide (p.kept = q.kept) = false := by simp [e2]
        have E2 := Lib.hid e2
        clear e2
        go_enter Try.func12, Try.ntmps12
        go_wp2_with fail
        refine (Ints_any _ _ _ _ _ _ _ (h1.fr0 (by repeat (first | exact Fr.refl _ _ | apply Fr.drewN | apply Fr.alloc))) (k1.fr0 (by repeat (first | exact Fr.refl _ _ | apply Fr.drewN | apply Fr.alloc)))).mono ?_
        rintro e w1 ⟨rfl, n1, rfl⟩
        go_wp2_with fail
        refine (Ints_any _ _ _ _ _ _ _ (h2.fr0 (by repeat (first | exact Fr.refl _ _ | apply Fr.drewN | apply Fr.alloc))) (k2.fr0 (by repeat (first | exact Fr.refl _ _ | apply Fr.drewN | apply Fr.alloc)))).mono ?_
        rintro e w2 ⟨rfl, n2, rfl⟩
        go_wp2
        go_ret
        refine ⟨ret_bool ?_, by repeat (first | exact Fr.refl _ _ | apply Fr.drewN | apply Fr.alloc)⟩
        have h6 := E2.out
        symm; simp; intro h; exact h6 (by rw [h])
    · have d1 : decide (p.ask = q.ask) = false := by simp [e1]
      have E1 := Lib.hid e1
      clear e1
      go_enter Try.func12, Try.ntmps12
      go_wp2_with fail
      refine (Ints_any _ _ _ _ _ _ _ (h1.fr0 (by repeat (first | exact Fr.refl _ _ | apply Fr.drewN | apply Fr.alloc))) (k1.fr0 (by repeat (first | exact Fr.refl _ _ | apply Fr.drewN | apply Fr.alloc)))).mono ?_
      rintro e w1 ⟨rfl, n1, rfl⟩
      go_wp2
      go_ret
      refine ⟨ret_bool ?_, by repeat (first | exact Fr.refl _ _ | apply Fr.drewN | apply Fr.alloc)⟩
      have h6 := E1.out
      symm; simp; intro h; exact h6 (by rw [h])
  · have d0 : (p.done == q.done) = false := by simp [e0]
    have E0 := Lib.hid e0
    clear e0
    go_enter Try.func12, Try.ntmps12
    go_wp2
    go_ret
    refine ⟨ret_bool ?_, by repeat (first | exact Fr.refl _ _ | apply Fr.drewN | apply Fr.alloc)⟩
    have h6 := E0.out
    symm; simp; intro h; exact h6 (by rw [h])
end Go.Proofs.Ytjpbmbonccenfaa
