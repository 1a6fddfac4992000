/- What a search returns: the reference's end. -/
import Derived.Test.YtjpbmbonccenfaaPlay
namespace Go.Proofs.Ytjpbmbonccenfaa
open Go.RowKit
set_option linter.unusedVariables false

/-- How far a search has come. -/
structure Qst where
  done : Bool
  ask : List Int
  kept : List Int
  pass : List Int
deriving DecidableEq

/-- The value v reads in w as a quest. -/
def QstIs (w : World) (v : Value) (q : Qst) : Prop :=
  ∃ A a B b C c, v = .agg #[.bool q.done, .slice A q.ask.length a, .slice B q.kept.length b, .slice C q.pass.length c] ∧ Rd w (.int .i64) A a q.ask ∧ Rd w (.int .i64) B b q.kept ∧ Rd w (.int .i64) C c q.pass
theorem QstIs.fr0 {w w' : World} {v : Value} {q : Qst} (h : QstIs w v q) (hf : Fr [] w w') : QstIs w' v q := by
  obtain ⟨A, a, B, b, C, c, hv, h1, h2, h3⟩ := h
  exact ⟨A, a, B, b, C, c, hv, h1.fr0 hf, h2.fr0 hf, h3.fr0 hf⟩

/-- The call returns a quest and an error. -/
def RetQst (w : World) (r : Qst × Int) (e : Ending) (w' : World) : Prop :=
  ∃ v, e = .returned (.tuple #[v, .int .i64 r.2]) ∧ Fr [] w w' ∧ QstIs w' v r.1

/-- The same, the slices in blocks from B on. -/
def RetQstF (B : Nat) (w : World) (r : Qst × Int) (e : Ending) (w' : World) : Prop :=
  ∃ v, e = .returned (.tuple #[v, .int .i64 r.2]) ∧ Fr [] w w' ∧ ∃ A a B1 b C c, v = .agg #[.bool r.1.done, .slice A r.1.ask.length a, .slice B1 r.1.kept.length b, .slice C r.1.pass.length c] ∧
    (Rd w' (.int .i64) A a r.1.ask ∧ Nw B A) ∧ (Rd w' (.int .i64) B1 b r.1.kept ∧ Nw B B1) ∧ Rd w' (.int .i64) C c r.1.pass ∧ Nw B C
theorem RetQstF.q {B : Nat} {w w' : World} {r : Qst × Int} {e : Ending} (h : RetQstF B w r e w') : RetQst w r e w' := by
  obtain ⟨v, he, hf, A, a, B1, b, C, c, hv, h1, h2, h3⟩ := h
  exact ⟨v, he, hf, A, a, B1, b, C, c, hv, h1.1, h2.1, h3.1⟩
def qNone : Qst := ⟨false, [], [], []⟩
/-- What end returns. -/
def endOf (stop : Bool) (want : List Int) (e : Int) (left : Bool) (kept pass : List Int) : Qst × Int :=
  if stop then (⟨false, want, [], []⟩, 0) else if e ≠ 0 then (qNone, e) else if left then (qNone, 8) else (⟨true, [], kept, pass⟩, 0)

set_option maxHeartbeats 1600000 in
theorem end_any (bp : Nat) (ans : List Int) (used : Nat) (S T : Value) (stop : Bool) (want : List Int) (er : Int) (K P : Option Addr) (ck cp : Nat) (kept pass : List Int) (w : World)
    (h : Play w bp ans used S T stop want) (hk : Rd w (.int .i64) K ck kept) (hp : Rd w (.int .i64) P cp pass) :
    Calls Try.prog 46 #[.pointer (some ⟨bp, 0, none⟩), .int .i64 er, .slice K kept.length ck, .slice P pass.length cp] w (RetQst w (endOf stop want er (decide (used < ans.length)) kept pass)) := by
  obtain ⟨A, c, B, d, hh, hr, hna, hb, hnb⟩ := h.ex
  have hbd := hr.bound
  have c0 := hh.cell 0 rfl
  have c1 := hh.cell 1 rfl
  have c4 := hh.cell 4 rfl
  have c5 := hh.cell 5 rfl
  have hlt := h.lt
  clear hh
  have hn : ∀ W : World, Rd W (.int .i64) none 0 ([] : List Int) := fun W => Rd.nil_ W _
  cases stop
  · by_cases he : er = 0
    · subst he
      by_cases hu : used < ans.length
      · go_enter Try.func46, Try.ntmps46
        go_wp2
        go_quiet (fail)
        go_wp2
        refine bodyPost_ret (v := .tuple #[.agg #[.bool false, .slice none 0 0, .slice none 0 0, .slice none 0 0], .int .i64 8]) (by simp [results, Try.results46, go_sem]) rfl ?_
        rw [show endOf false want 0 (decide (used < ans.length)) kept pass = (qNone, 8) by simp [endOf, hu]]
        refine ⟨_, rfl, ((Fr.refl _ _).alloc _).drewN _, none, 0, none, 0, none, 0, rfl, hn _, hn _, hn _⟩
      · go_enter Try.func46, Try.ntmps46
        go_wp2
        go_quiet (fail)
        go_wp2
        refine bodyPost_ret (v := .tuple #[.agg #[.bool true, .slice none 0 0, .slice K kept.length ck, .slice P pass.length cp], .int .i64 0]) (by simp [results, Try.results46, go_sem]) rfl ?_
        rw [show endOf false want 0 (decide (used < ans.length)) kept pass = (⟨true, [], kept, pass⟩, 0) by simp [endOf, hu]]
        have hf := ((Fr.refl [] w).alloc (.cells #[.bool true, .slice none 0 0, .slice K kept.length ck, .slice P pass.length cp] 26)).drewN nq
        refine ⟨_, rfl, hf, none, 0, K, ck, P, cp, rfl, hn _, hk.fr0 hf, hp.fr0 hf⟩
    · have heb : (er != 0) = true := by simpa using he
      have HE := Lib.hid he
      clear he
      go_enter Try.func46, Try.ntmps46
      go_wp2
      refine bodyPost_ret (v := .tuple #[.agg #[.bool false, .slice none 0 0, .slice none 0 0, .slice none 0 0], .int .i64 er]) (by simp [results, Try.results46, go_sem]) rfl ?_
      rw [show endOf false want er (decide (used < ans.length)) kept pass = (qNone, er) by simp [endOf, HE.out]]
      refine ⟨_, rfl, (Fr.refl _ _).alloc _, none, 0, none, 0, none, 0, rfl, hn _, hn _, hn _⟩
  · go_enter Try.func46, Try.ntmps46
    go_wp2
    refine bodyPost_ret (v := .tuple #[.agg #[.bool false, .slice B want.length d, .slice none 0 0, .slice none 0 0], .int .i64 0]) (by simp [results, Try.results46, go_sem]) rfl ?_
    rw [show endOf true want er (decide (used < ans.length)) kept pass = (⟨false, want, [], []⟩, 0) by simp [endOf]]
    refine ⟨_, rfl, (Fr.refl _ _).alloc _, B, d, none, 0, none, 0, rfl, hb.alloc _, hn _, hn _⟩
theorem Blk.four {w : World} {g : Nat} {t : TypeId} {x0 x1 x2 x3 : Value} (h : Blk w g t #[x0, x1, x2, x3]) (a0 a1 a2 a3 : Value) :
    Blk ((((w.setCell ⟨g, 0, none⟩ a0).setCell ⟨g, 1, none⟩ a1).setCell ⟨g, 2, none⟩ a2).setCell ⟨g, 3, none⟩ a3) g t #[a0, a1, a2, a3] :=
  (((h.set_ 0 a0).set_ 1 a1).set_ 2 a2).set_ 3 a3
theorem fr_four {S : List Nat} {w w1 : World} (h : Fr S w w1) {g : Nat} (hg : g ∈ S ∨ w.heap.size ≤ g) (a0 a1 a2 a3 : Value) :
    Fr S w ((((w1.setCell ⟨g, 0, none⟩ a0).setCell ⟨g, 1, none⟩ a1).setCell ⟨g, 2, none⟩ a2).setCell ⟨g, 3, none⟩ a3) :=
  (((h.setCell (p := ⟨g, 0, none⟩) hg _).setCell (p := ⟨g, 1, none⟩) hg _).setCell (p := ⟨g, 2, none⟩) hg _).setCell (p := ⟨g, 3, none⟩) hg _
theorem Rd.four {α : Type} {w : World} {enc : α → Value} {A : Option Addr} {c : Nat} {xs : List α} (h : Rd w enc A c xs) {g : Nat} (hn : 0 < xs.length → ∀ a, A = some a → a.block ≠ g) (a0 a1 a2 a3 : Value) :
    Rd ((((w.setCell ⟨g, 0, none⟩ a0).setCell ⟨g, 1, none⟩ a1).setCell ⟨g, 2, none⟩ a2).setCell ⟨g, 3, none⟩ a3) enc A c xs :=
  (((h.setCell (p := ⟨g, 0, none⟩) hn _).setCell (p := ⟨g, 1, none⟩) hn _).setCell (p := ⟨g, 2, none⟩) hn _).setCell (p := ⟨g, 3, none⟩) hn _

/-- A quest in a result's cell, and an error in a slot. -/
theorem results_qst {fn : Func} {p t : Tmp} (h : fn.results = #[.cell p 26, .tmp t]) (tmps : Array Value) (w : World) (g : Nat) {a0 a1 a2 a3 : Value} (hp : tmps.getD p undef = .pointer (some ⟨g, 0, none⟩)) (hb : Blk w g 26 #[a0, a1, a2, a3]) :
    (results fn tmps).run Try.prog w = .ok (.tuple #[.agg #[a0, a1, a2, a3], tmps.getD t undef]) w := by
  have c0 := hb.cell 0 rfl
  have c1 := hb.cell 1 rfl
  have c2 := hb.cell 2 rfl
  have c3 := hb.cell 3 rfl
  simp only [Array.getD_eq_getD_getElem?] at hp
  simp [results, h, go_sem, hp, c0, c1, c2, c3]

/-- Numbers do not lie in a result's cell. -/
theorem Rd.apartQ {w : World} {k : IntKind} {A : Option Addr} {c g : Nat} {t : TypeId} {xs : List Int} {b0 : Bool} {A1 A2 A3 : Option Addr} {n1 n2 n3 m1 m2 m3 : Nat} (h : Rd w (.int k) A c xs)
    (hb : Blk w g t #[.bool b0, .slice A1 n1 m1, .slice A2 n2 m2, .slice A3 n3 m3]) (h0 : 0 < xs.length) (a : Addr) (ha : A = some a) : a.block ≠ g := by
  obtain ⟨b, off, rfl, hc⟩ := h.at0 h0
  injection ha with ha
  subst ha
  rintro rfl
  have h1 := hc 0 xs[0] (by simp)
  have h2 := cell_of_row w b (off + 0) _ t (0, 0) hb
  rw [h2] at h1
  match off, h1 with
  | 0, h1 => simp at h1
  | 1, h1 => simp at h1
  | 2, h1 => simp at h1
  | 3, h1 => simp at h1
  | n + 4, h1 => simp at h1

theorem qstF_ret {B0 : Nat} {w w3 : World} {g : Nat} {r : Qst × Int} {A a B b C c} {b0 : Bool} {A1 A2 A3 : Option Addr} {n1 n2 n3 m1 m2 m3 : Nat} (hg : w.heap.size ≤ g) (hf : Fr [] w w3)
    (hb : Blk w3 g 26 #[.bool b0, .slice A1 n1 m1, .slice A2 n2 m2, .slice A3 n3 m3]) (h1 : Rd w3 (.int .i64) A a r.1.ask ∧ Nw B0 A) (h2 : Rd w3 (.int .i64) B b r.1.kept ∧ Nw B0 B) (h3 : Rd w3 (.int .i64) C c r.1.pass ∧ Nw B0 C) :
    RetQstF B0 w r (.returned (.tuple #[.agg #[.bool r.1.done, .slice A r.1.ask.length a, .slice B r.1.kept.length b, .slice C r.1.pass.length c], .int .i64 r.2]))
      ((((w3.setCell ⟨g, 0, none⟩ (.bool r.1.done)).setCell ⟨g, 1, none⟩ (.slice A r.1.ask.length a)).setCell ⟨g, 2, none⟩ (.slice B r.1.kept.length b)).setCell ⟨g, 3, none⟩ (.slice C r.1.pass.length c)) :=
  ⟨_, rfl, fr_four hf (.inr hg) _ _ _ _, A, a, B, b, C, c, rfl, ⟨h1.1.four (h1.1.apartQ hb) _ _ _ _, h1.2⟩, ⟨h2.1.four (h2.1.apartQ hb) _ _ _ _, h2.2⟩, h3.1.four (h3.1.apartQ hb) _ _ _ _, h3.2⟩

theorem qst_ret {w w3 : World} {g : Nat} {r : Qst × Int} {A a B b C c} {b0 : Bool} {A1 A2 A3 : Option Addr} {n1 n2 n3 m1 m2 m3 : Nat} (hg : w.heap.size ≤ g) (hf : Fr [] w w3)
    (hb : Blk w3 g 26 #[.bool b0, .slice A1 n1 m1, .slice A2 n2 m2, .slice A3 n3 m3]) (h1 : Rd w3 (.int .i64) A a r.1.ask) (h2 : Rd w3 (.int .i64) B b r.1.kept) (h3 : Rd w3 (.int .i64) C c r.1.pass) :
    RetQst w r (.returned (.tuple #[.agg #[.bool r.1.done, .slice A r.1.ask.length a, .slice B r.1.kept.length b, .slice C r.1.pass.length c], .int .i64 r.2]))
      ((((w3.setCell ⟨g, 0, none⟩ (.bool r.1.done)).setCell ⟨g, 1, none⟩ (.slice A r.1.ask.length a)).setCell ⟨g, 2, none⟩ (.slice B r.1.kept.length b)).setCell ⟨g, 3, none⟩ (.slice C r.1.pass.length c)) :=
  ⟨_, rfl, fr_four hf (.inr hg) _ _ _ _, A, a, B, b, C, c, rfl, h1.four (h1.apartQ hb) _ _ _ _, h2.four (h2.apartQ hb) _ _ _ _, h3.four (h3.apartQ hb) _ _ _ _⟩

end Go.Proofs.Ytjpbmbonccenfaa
