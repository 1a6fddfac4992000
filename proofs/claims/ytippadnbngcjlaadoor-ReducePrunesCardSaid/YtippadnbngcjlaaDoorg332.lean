/- Texts of this seat, one behind the other: Ask, Ask2, Ask3. -/
import Derived.Test.YtippadnbngcjlaaDoorg33
import Derived.Test.YtippadnbngcjlaaDoorg328
import Derived.Deep.RegionLaw
/- The reference's ask: each set once. -/
namespace Go.Proofs.YtippadnbngcjlaaDoor
open Go.RowKit
set_option linter.unusedVariables false

/-- append onto a slice of the call's own, as one step of a region. -/
theorem step_append_rd {α : Type} {P : Program} {ops : Array Oper} {o : Oper} {a : Act} {w : World} {K : Act → World → Prop} {Q : Exit → Act → World → Prop} {E : Prop} (hgd : o.guard = none) (s x : Operand) (t : TypeId)
    (ho : o.op = .call { callee := .builtin .append, args := #[s, x], argTypes := #[t, t] })
    {e : TypeId} {z : Value} {bytes base n : Nat} (E1 : Elem P t e z 1 bytes) (v : Value) (xs : List Value) (hs : a.eval s = v) (hown : w.ownsRow base e 1 v n xs)
    (A : Option Addr) (c : Nat) (news : List α) (enc : α → Value) (hx : a.eval x = .slice A news.length c) (hr : Rd w enc A c news) (h1 : ∀ y, (enc y).oneCell' = true)
    (hb : (n + news.length) * bytes ≤ 140737488355328) (hbase : base ≤ w.heap.size)
    (h : ∀ A' c' w', w'.ownsRow base e 1 (.slice A' (n + news.length) c') (n + news.length) (xs ++ news.map enc) → w.grownBy w' v.ownBlock →
      ((Value.slice A' (n + news.length) c').ownBlock = v.ownBlock ∨ (Value.slice A' (n + news.length) c').ownBlock = some w.heap.size) → K (a.put o.dst (.slice A' (n + news.length) c')) w') :
    if Region.wanted o (yielded ops a.tmps) = true then Oper.wp P o a w K Q else E := by
  have hw : Region.wanted o (yielded ops a.tmps) = true := by simp [Region.wanted, hgd]
  rw [if_pos hw]
  obtain ⟨A', c', w', hrun, h2, h3, h5⟩ := run_append_rd (P := P) (ty := o.type) E1 hown hr h1 hb hbase
  unfold Oper.wp execOp
  simp only [ho, resolve, invoke, builtin, Sem.run_bind, Sem.run_pure, Result.andThen_ok, List.map_toArray, List.map_cons, List.map_nil, hs, hx, hrun]
  exact h A' c' w' h2 h3 h5

/-- The cell of a slice of numbers. -/
def slVal (A : Option Addr) (q : List Int) (c : Nat) : Value := .slice A q.length c
end Go.Proofs.YtippadnbngcjlaaDoor

/- The reference's ask: what has been asked lies in the play. -/
namespace Go.Proofs.YtippadnbngcjlaaDoor
open Go.RowKit
set_option linter.unusedVariables false

theorem blk6_inj {w : World} {bp : Nat} {t : TypeId} {a0 a1 a2 a3 a4 a5 b0 b1 b2 b3 b4 b5 : Value} (h : Blk w bp t #[a0, a1, a2, a3, a4, a5]) (k : Blk w bp t #[b0, b1, b2, b3, b4, b5]) : a2 = b2 ∧ a3 = b3 := by
  have he := Option.some.inj ((show w.heap[bp]? = _ from h).symm.trans k)
  injection he with he
  simp only [Array.mk.injEq, List.cons.injEq] at he
  exact ⟨he.2.2.1, he.2.2.2.1⟩
section
variable {w w' : World} {bp g B n : Nat} {x0 x1 S T x4 x5 : Value} {rows : List Value}
end

def encSl (t : Option Addr × Nat × Nat) : Value := .slice t.1 t.2.1 t.2.2
theorem elemSl : Elem Tryd.prog 79 40 (.slice none 0 0) 1 24 := ⟨Tryd.underlying79, by kernel_rfl, rfl, by omega, by omega⟩
theorem elemVe : Elem Tryd.prog 86 85 (.int .u8 0) 1 1 := ⟨Tryd.underlying86, by kernel_rfl, rfl, by omega, by omega⟩
theorem own_ne_blk {w : World} {B g n : Nat} {e t : TypeId} {size : Nat} {v : Value} {xs : List Value} {cs : Array Value} (h : w.ownsRow B e size v n xs) (hb : Blk w g t cs) (ht : t ≠ e) (k : Nat) (hk : v.ownBlock = some k) : k ≠ g := by
  rintro rfl
  rcases h.2 with ⟨rfl, _⟩ | ⟨g', cap, cur, rfl, _, hh, _⟩
  · cases hk
  · have : g' = k := by simpa [Value.ownBlock] using hk
    subst this
    rw [hb] at hh
    injection hh with hh
    injection hh with h1 h2 h3
    exact ht h2
theorem own_ne_own {w : World} {B B' n m : Nat} {e t : TypeId} {size size' : Nat} {v u : Value} {xs ys : List Value} (h : w.ownsRow B e size v n xs) (h' : w.ownsRow B' t size' u m ys) (ht : t ≠ e) (k : Nat) (hk : v.ownBlock = some k) : u.ownBlock ≠ some k := by
  intro hu
  rcases h'.2 with ⟨rfl, _⟩ | ⟨g', cap, cur, rfl, _, hh, _⟩
  · cases hu
  · have : g' = k := by simpa [Value.ownBlock] using hu
    subst this
    exact own_ne_blk h (show Blk w g' t cur from hh) ht g' hk rfl
theorem frOfGrown {w w' : World} {row : Option Nat} (hg : w.grownBy w' row) : Fr row.toList w w' := (Fr.refl _ w).grown hg fun k hk => .inl (by simp [hk])
theorem lookup_drop {kn : Kn} {q : List Int} {k : Nat} {p : List Int × Int} (h : kn[k]? = some p) :
    @List.lookup (List Int) Int instBEqOfDecidableEq q (kn.drop k) = if q = p.1 then some p.2 else @List.lookup (List Int) Int instBEqOfDecidableEq q (kn.drop (k + 1)) := by
  obtain ⟨hk, rfl⟩ := List.getElem?_eq_some_iff.1 h
  rw [List.drop_eq_getElem_cons hk]
  show (match @BEq.beq (List Int) instBEqOfDecidableEq q kn[k].1 with | true => some kn[k].2 | false => @List.lookup (List Int) Int instBEqOfDecidableEq q (kn.drop (k + 1))) = _
  by_cases hq : q = kn[k].1
  · rw [if_pos hq]
    have : (@BEq.beq (List Int) instBEqOfDecidableEq q kn[k].1) = true := decide_eq_true hq
    rw [this]
  · rw [if_neg hq]
    have : (@BEq.beq (List Int) instBEqOfDecidableEq q kn[k].1) = false := decide_eq_false hq
    rw [this]

end Go.Proofs.YtippadnbngcjlaaDoor

/- The reference's ask: each set once; the walk. -/
namespace Go.Proofs.YtippadnbngcjlaaDoor
open Go.RowKit
set_option linter.unusedVariables false

end Go.Proofs.YtippadnbngcjlaaDoor
