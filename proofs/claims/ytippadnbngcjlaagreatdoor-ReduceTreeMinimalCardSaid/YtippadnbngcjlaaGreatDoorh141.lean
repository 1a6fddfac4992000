/- Texts of this seat, one behind the other: AppK. -/
import Derived.Test.YtippadnbngcjlaaGreatDoorh11
import Derived.Deep.AppendSrc
import Derived.Deep.DeepAppendRoom
namespace Go.Proofs.YtippadnbngcjlaaGreatDoor
set_option linter.unusedVariables false

/- append onto a slice of the call's own: what its cells held, they hold. -/
section
open Go.RowKit
section
variable {P : Program} {w : World}
theorem own_at {base sz n cap g : Nat} {e : TypeId} {xs : List Value} (h : w.ownsRow base e sz (.slice (some ⟨g, 0, none⟩) n cap) n xs) {j : Nat} {u : Value} (hu : xs[j]? = some u) : w.cell? ⟨g, j, none⟩ = some u := by
 rcases h.2 with ⟨he, _⟩ | ⟨g', cap', cur, he, _, hh, _, _, hsz, htk⟩
 ·simp at he
 ·injection he with e1 e2 e3
  injection e1 with e1
  injection e1 with e1
  subst e1 e3
  have : cur[j]? = some u := by
   rw [← htk, List.getElem?_take] at hu
   split at hu
   ·simpa using hu
   ·cases hu
  rw [cell_of_row w g j cur e (0, 0) hh, this]
theorem run_append_k {t ty e : TypeId} {z : Value} {bytes sz base n cap g : Nat} (E : Elem P t e z sz bytes) {xs : List Value} (hown : w.ownsRow base e sz (.slice (some ⟨g, 0, none⟩) n cap) n xs)
  {a : Addr} {m c : Nat} {ys : List Value} (hc : ∀ j u, ys[j]? = some u → w.cell? (a.add j) = some u) (hlen : ys.length = m * sz) (hm0 : 0 < m) (h1 : ∀ u ∈ ys, u.oneCell' = true)
  (hb : (n + m) * bytes ≤ 140737488355328) (hbase : base ≤ w.heap.size) {A' : Option Addr} {c' : Nat} {w' : World}
  (hrun : (Builtin.append_ #[t, t] ty #[.slice (some ⟨g, 0, none⟩) n cap, .slice (some a) m c]).run P w = .ok (.slice A' (n + m) c') w') : ∀ j u, xs[j]? = some u → w'.cell? ⟨g, j, none⟩ = some u := by
 intro j u hu
 obtain ⟨i, hi, hz, hsz, hby⟩ := info_parts E.inf
 subst hsz
 subst hby
 have hm : n + m ≤ maxLen := by
  have hh : (n + m) * 1 ≤ (n + m) * i.bytes := Nat.mul_le_mul_left _ E.byt
  unfold maxLen
  omega
 by_cases hroom : n + m ≤ cap
 ·obtain ⟨w2, hr2, ho2, _⟩ := run_append_own_spare (P := P) (w := w) base t ty e i i.size E.und hi rfl g n cap xs hown a m c ys hlen hc h1 hroom
  rw [hr2] at hrun
  injection hrun with h2 h3
  subst h3
  exact own_at ho2 (by rw [List.getElem?_append_left (List.getElem?_eq_some_iff.1 hu).1]; exact hu)
 ·have hcell := own_at hown hu
  have hlt := World.block_lt_of_cell? w _ hcell
  have hold := run_firstCells_some (P := P) w.drew i.size n ⟨g, 0, none⟩ n cap xs hown.1 (fun k v hv => by
   rw [Addr.add_lit, Nat.zero_add]
   exact own_at hown hv)
  have hg := run_append_grow_src (P := P) (w := w) t t ty e i z E.und hi hz (some ⟨g, 0, none⟩) n cap xs hold (.slice (some a) m c) m ys (Src.ofSlice w E.und a m c ys hlen hc h1) (by omega) (by unfold maxLen at hm; omega)
   (by
    have h4 : Builtin.nextslicecap (n + m) cap ≤ 2 * (n + m) := nextslicecap_le (by omega)
    have h5 : Builtin.nextslicecap (n + m) cap * i.bytes ≤ 2 * (n + m) * i.bytes := Nat.mul_le_mul_right _ h4
    rw [Nat.mul_assoc] at h5
    omega)
  rw [hg] at hrun
  injection hrun with h2 h3
  subst h3
  exact ((Fr.refl [] w).drew.alloc _).cell hcell (by simp)
theorem step_append_k {ops : Array Oper} {o : Oper} {a : Act} {K : Act → World → Prop} {Q : Exit → Act → World → Prop} {F : Prop} (hgd : o.guard = none) (s x : Operand) (t : TypeId)
  (ho : o.op = .call { callee := .builtin .append, args := #[s, x], argTypes := #[t, t] })
  {e : TypeId} {z : Value} {bytes sz base n g cap : Nat} (E : Elem P t e z sz bytes) (xs : List Value) (hs : a.eval s = .slice (some ⟨g, 0, none⟩) n cap) (hown : w.ownsRow base e sz (.slice (some ⟨g, 0, none⟩) n cap) n xs)
  (b m c : Nat) (ys : List Value) (hx : a.eval x = .slice (some ⟨b, 0, none⟩) m c) (hr : Cells w (some ⟨b, 0, none⟩) ys) (hlen : ys.length = m * sz) (hm0 : 0 < m) (hmc : m ≤ c) (h1 : ∀ u ∈ ys, u.oneCell' = true)
  (hb : (n + m) * bytes ≤ 140737488355328) (hbase : base ≤ w.heap.size)
  (h : ∀ A' c' w', w'.ownsRow base e sz (.slice A' (n + m) c') (n + m) (xs ++ ys) → w.grownBy w' (some g) →
   ((Value.slice A' (n + m) c').ownBlock = some g ∨ (Value.slice A' (n + m) c').ownBlock = some w.heap.size) → (∀ j u, xs[j]? = some u → w'.cell? ⟨g, j, none⟩ = some u) → K (a.put o.dst (.slice A' (n + m) c')) w') :
  if Region.wanted o (yielded ops a.tmps) = true then Oper.wp P o a w K Q else F := by
 have hw : Region.wanted o (yielded ops a.tmps) = true := by simp [Region.wanted, hgd]
 rw [if_pos hw]
 obtain ⟨A', c', w', hrun, h2, h3, h5⟩ := run_append_g (P := P) (ty := o.type) E hown hr hlen hmc h1 hb hbase
 have hcell : ∀ j u, ys[j]? = some u → w.cell? ((⟨b, 0, none⟩ : Addr).add j) = some u := fun j u hu => by
  obtain ⟨b', off', he, hc⟩ := hr (by have := (List.getElem?_eq_some_iff.1 hu).1; omega)
  injection he with he
  injection he with e1 e2
  subst e1 e2
  rw [Addr.add_lit]
  exact hc j u hu
 have hk := run_append_k E hown hcell hlen hm0 h1 hb hbase hrun
 unfold Oper.wp execOp
 simp only [ho, resolve, invoke, builtin, Sem.run_bind, Sem.run_pure, Result.andThen_ok, List.map_toArray, List.map_cons, List.map_nil, hs, hx, hrun]
 exact h A' c' w' h2 h3 h5 hk
end
end

end Go.Proofs.YtippadnbngcjlaaGreatDoor
