/- Slices of picks: two cells an element. -/
import Derived.Test.YtjpbmbonccenfaaRef2
import Derived.WalkSmall
import Derived.Deep.LoopGhost
namespace Go.Proofs.Ytjpbmbonccenfaa
open Go.RowKit
set_option linter.unusedVariables false

/-- A pick: a thread, a count. -/
abbrev Pk := Int × Int
/-- The cells of picks. -/
def flat (ps : List Pk) : List Value := ps.flatMap fun p => [.int .i64 p.1, .int .i64 p.2]
theorem flat_length (ps : List Pk) : (flat ps).length = ps.length * 2 := by
  induction ps with
  | nil => rfl
  | cons p ps ih => simp only [flat, List.flatMap_cons, List.length_append, List.length_cons, List.length_nil] at ih ⊢; rw [ih]; omega
theorem flat_snoc (ps : List Pk) (p : Pk) : flat (ps ++ [p]) = flat ps ++ [.int .i64 p.1, .int .i64 p.2] := by simp [flat]
theorem flat_at0 : ∀ (ps : List Pk) (k : Nat), (flat ps)[k * 2]? = ps[k]?.map fun p => .int .i64 p.1
  | [], k => by simp [flat]
  | p :: ps, 0 => by simp [flat]
  | p :: ps, k + 1 => by
    have := flat_at0 ps k
    rw [show (k + 1) * 2 = k * 2 + 2 by omega]
    simpa [flat] using this
theorem flat_at1 : ∀ (ps : List Pk) (k : Nat), (flat ps)[k * 2 + 1]? = ps[k]?.map fun p => .int .i64 p.2
  | [], k => by simp [flat]
  | p :: ps, 0 => by simp [flat]
  | p :: ps, k + 1 => by
    have := flat_at1 ps k
    rw [show (k + 1) * 2 + 1 = k * 2 + 1 + 2 by omega]
    simpa [flat] using this
theorem flat_set : ∀ (ps : List Pk) (k : Nat) (q : Pk) (v : Int), ps[k]? = some q → (flat ps).set (k * 2 + 1) (.int .i64 v) = flat (ps.set k (q.1, v))
  | [], k, q, v, h => by simp at h
  | p :: ps, 0, q, v, h => by simp at h; subst h; simp [flat]
  | p :: ps, k + 1, q, v, h => by
    have := flat_set ps k q v (by simpa using h)
    rw [show (k + 1) * 2 + 1 = k * 2 + 1 + 2 by omega]
    simpa [flat] using this

/-- A slice that reads as picks. -/
structure Rp (w : World) (A : Option Addr) (c : Nat) (ps : List Pk) : Prop where
  le : ps.length ≤ c
  cap : c ≤ maxLen
  at0 : 0 < ps.length → ∃ b off, A = some ⟨b, off, none⟩ ∧ ∀ k p, ps[k]? = some p → w.cell? ⟨b, off + k * 2, none⟩ = some (.int .i64 p.1) ∧ w.cell? ⟨b, off + k * 2 + 1, none⟩ = some (.int .i64 p.2)

section
variable {w w' : World} {A : Option Addr} {c : Nat} {ps : List Pk} {S : List Nat}
theorem Rp.at_ (h : Rp w A c ps) {k : Nat} (hk : k < ps.length) : ∃ b off x y, A = some ⟨b, off, none⟩ ∧ Hid (ps[k]? = some (x, y)) ∧ w.cell? ⟨b, off + k * 2, none⟩ = some (.int .i64 x) ∧ w.cell? ⟨b, off + k * 2 + 1, none⟩ = some (.int .i64 y) := by
  obtain ⟨b, off, hA, hc⟩ := h.at0 (by omega)
  have := hc k ps[k] (List.getElem?_eq_getElem hk)
  exact ⟨b, off, ps[k].1, ps[k].2, hA, List.getElem?_eq_getElem hk, this.1, this.2⟩
theorem Rp.bound (h : Rp w A c ps) : ps.length ≤ 9223372036854775807 := by
  have h1 := h.le
  have h2 := h.cap
  unfold maxLen at h2
  omega
theorem Rp.nil_ (w : World) : Rp w none 0 [] := ⟨Nat.le_refl _, by unfold maxLen; omega, fun h => by simp at h⟩
theorem Rp.fr (h : Rp w A c ps) (hf : Fr S w w') (hn : 0 < ps.length → ∀ a, A = some a → a.block ∉ S) : Rp w' A c ps :=
  ⟨h.le, h.cap, fun h0 => by
    obtain ⟨b, off, hA, hc⟩ := h.at0 h0
    exact ⟨b, off, hA, fun k p hp => ⟨hf.cell (hc k p hp).1 (hn h0 ⟨b, off, none⟩ hA), hf.cell (hc k p hp).2 (hn h0 ⟨b, off, none⟩ hA)⟩⟩⟩
theorem Rp.fr0 (h : Rp w A c ps) (hf : Fr [] w w') : Rp w' A c ps := h.fr hf (by simp)
theorem Rp.alloc (h : Rp w A c ps) (o : Obj) : Rp (w.alloc o) A c ps := h.fr0 ((Fr.refl _ _).alloc o)
theorem Rp.drewN (h : Rp w A c ps) (n : Nat) : Rp (w.drewN n) A c ps := ⟨h.le, h.cap, h.at0⟩
theorem Rp.of_own {base n : Nat} {e : TypeId} (h : w.ownsRow base e 2 (.slice A n c) n (flat ps)) : n = ps.length ∧ Rp w A c ps := by
  have hl : n = ps.length := by have := h.1; rw [flat_length] at this; omega
  subst hl
  refine ⟨rfl, ?_⟩
  rcases h.2 with ⟨he, h0⟩ | ⟨g, cap, cur, he, hb, hh, hnc, hcm, hsz, htk⟩
  · injection he with e1 e2 e3
    subst e1 e3
    exact ⟨by omega, by unfold maxLen; omega, fun h1 => by omega⟩
  · injection he with e1 e2 e3
    subst e1 e3
    exact ⟨hnc, hcm, fun _ => ⟨g, 0, rfl, fun k p hp => by
      have hk : k < ps.length := (List.getElem?_eq_some_iff.1 hp).1
      have a0 := h.cellAt (k * 2) (by omega)
      have a1 := h.cellAt (k * 2 + 1) (by omega)
      rw [flat_at0, hp] at a0
      rw [flat_at1, hp] at a1
      rw [Nat.zero_add]
      exact ⟨a0, a1⟩⟩⟩
end

theorem elemPicks : Elem Try.prog 36 43 (.agg #[.int .i64 0, .int .i64 0]) 2 16 := ⟨Try.underlying36, by kernel_rfl, rfl, by omega, by omega⟩

/-- append(s, p) at the walk: one pick onto a slice of the call's own. -/
theorem wpList_append_pick {w : World} {ops : Array Oper} {rest : List Oper} {o : Oper} {a : Act} {Q : Exit → Act → World → Prop} (hgd : o.guard = none) (s x : Operand)
    (ho : o.op = .call { callee := .builtin .append, args := #[s, x], argTypes := #[36, 36] })
    {base n : Nat} (v : Value) (xs : List Value) (hs : a.eval s = v) (hown : w.ownsRow base 43 2 v n xs)
    (b : Nat) (p1 p2 : Int) (hx : a.eval x = .slice (some ⟨b, 0, none⟩) 1 1) (h1 : w.cell? ⟨b, 0, none⟩ = some (.int .i64 p1)) (h2 : w.cell? ⟨b, 1, none⟩ = some (.int .i64 p2))
    (hb : (n + 1) * 16 ≤ 140737488355328) (hbase : base ≤ w.heap.size)
    (h : ∀ A' c' w', w'.ownsRow base 43 2 (.slice A' (n + 1) c') (n + 1) (xs ++ [.int .i64 p1, .int .i64 p2]) → w.grownBy w' v.ownBlock → wpList Try.prog ops Q rest (a.put o.dst (.slice A' (n + 1) c')) w') :
    wpList Try.prog ops Q (o :: rest) a w := by
  obtain ⟨i, hi, hz, hsz, hby⟩ := info_parts elemPicks.inf
  refine wpList_append_own_at w hgd s x _ ho base _ i _ 2 16 elemPicks.und hi hz hsz hby rfl (by omega) v n xs hs hown ⟨b, 0, none⟩ 1 1 [.int .i64 p1, .int .i64 p2] hx rfl (fun j u hj => ?_) (fun u hu => ?_) (by unfold maxLen; omega) (by omega) hbase (fun v' w' hown' hg hnil hat => ?_)
  · rw [Addr.add_lit, Nat.zero_add]
    match j, hj with
    | 0, hj => simp at hj; subst hj; exact h1
    | 1, hj => simp at hj; subst hj; exact h2
  · simp at hu
    rcases hu with rfl | rfl <;> rfl
  · obtain ⟨A', c', rfl⟩ := own_form hown'
    exact h A' c' w' hown' hg

/-- The call returns a slice of picks of its own. -/
def RetPks (w : World) (ps : List Pk) (e : Ending) (w' : World) : Prop :=
  ∃ A c, e = .returned (.slice A ps.length c) ∧ Fr [] w w' ∧ w'.ownsRow w.heap.size 43 2 (.slice A ps.length c) ps.length (flat ps)
end Go.Proofs.Ytjpbmbonccenfaa
