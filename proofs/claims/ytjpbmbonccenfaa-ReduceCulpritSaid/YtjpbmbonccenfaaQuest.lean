/- quest: what a search of sets returns, put together. -/
import Derived.Test.YtjpbmbonccenfaaEnd
namespace Go.Proofs.Ytjpbmbonccenfaa
open Go.RowKit
set_option linter.unusedVariables false

def questOf (ask kept : List Int) (done : Bool) (e : Int) : Qst × Int :=
  if e ≠ 0 then (qNone, e) else if done = false then (⟨false, ask, [], []⟩, 0) else (⟨true, [], kept, []⟩, 0)

set_option maxHeartbeats 1600000 in
theorem quest_any (A B : Option Addr) (a b : Nat) (ask kept : List Int) (done : Bool) (er : Int) (w : World) (ha : Rd w (.int .i64) A a ask) (hb : Rd w (.int .i64) B b kept) (hl : kept.length ≤ 1000000) (B0 : Nat) (hB0 : B0 ≤ w.heap.size) (hnA : Nw B0 A) :
    Calls Try.prog 43 #[.slice A ask.length a, .slice B kept.length b, .bool done, .int .i64 er] w (RetQstF B0 w (questOf ask kept done er)) := by
  have hn : ∀ W : World, Rd W (.int .i64) none 0 ([] : List Int) ∧ Nw B0 none := fun W => ⟨Rd.nil_ W _, Nw.none_ _⟩
  by_cases he : er = 0
  · subst he
    cases done
    · go_enter Try.func43, Try.ntmps43
      go_wp2
      refine bodyPost_ret (v := .tuple #[.agg #[.bool false, .slice A ask.length a, .slice none 0 0, .slice none 0 0], .int .i64 0]) (by simp [results, Try.results43, go_sem]) rfl ?_
      rw [show questOf ask kept false 0 = (⟨false, ask, [], []⟩, 0) by simp [questOf]]
      exact ⟨_, rfl, (by repeat (first | exact Fr.refl _ _ | assumption | apply Fr.drewN | apply Fr.alloc | refine Fr.setCell ?_ (by simp) _)), A, a, none, 0, none, 0, rfl, ⟨ha.alloc _, hnA⟩, hn _, hn _⟩
    · go_enter Try.func43, Try.ntmps43
      have hB1 := Blk.new w 26 #[.bool false, .slice none 0 0, .slice none 0 0, .slice none 0 0] _ rfl
      go_wp2_with fail
      refine (fresh_any B b kept _ (hb.alloc _) hl).mono ?_
      simp only [RetOwn, List.length_map]
      rintro e w2 ⟨A2, c2, rfl, hf2, hown2⟩
      have hB2 := hB1.fr hf2 (by simp)
      have qc0 := hB2.cell 0 rfl
      have qc1 := hB2.cell 1 rfl
      have qc2 := hB2.cell 2 rfl
      have qc3 := hB2.cell 3 rfl
      have qd0 := hB2.frozen 0
      have qd1 := hB2.frozen 1
      have qd2 := hB2.frozen 2
      have qd3 := hB2.frozen 3
      go_wp2
      refine bodyPost_ret (results_qst rfl _ _ w.heap.size rfl (hB2.four _ _ _ _)) rfl ?_
      rw [show questOf ask kept true 0 = (⟨true, [], kept, []⟩, 0) by simp [questOf]]
      exact qstF_ret (r := (⟨true, [], kept, []⟩, 0)) (Nat.le_refl _) (((Fr.refl _ _).alloc _).trans hf2) hB2 (hn _) ⟨own_rd hown2 rfl rfl, (Nw.own hown2).mono (by simp; omega)⟩ (hn _)
  · have heb : (er != 0) = true := by simpa using he
    have HE := Lib.hid he
    clear he
    go_enter Try.func43, Try.ntmps43
    go_wp2
    refine bodyPost_ret (v := .tuple #[.agg #[.bool false, .slice none 0 0, .slice none 0 0, .slice none 0 0], .int .i64 er]) (by simp [results, Try.results43, go_sem]) rfl ?_
    rw [show questOf ask kept done er = (qNone, er) by have := HE.out; simp [questOf, this]]
    exact ⟨_, rfl, (by repeat (first | exact Fr.refl _ _ | assumption | apply Fr.drewN | apply Fr.alloc | refine Fr.setCell ?_ (by simp) _)), none, 0, none, 0, none, 0, rfl, hn _, hn _, hn _⟩
end Go.Proofs.Ytjpbmbonccenfaa
