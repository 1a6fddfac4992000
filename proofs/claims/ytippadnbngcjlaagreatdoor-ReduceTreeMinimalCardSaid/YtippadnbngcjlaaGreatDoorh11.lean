/- Texts of this seat, one behind the other: Base, TreeM, GramM, SizM, TreeG, LeastM, NodeM, AppG. -/
import Derived.Below
import Derived.Laws.OwnMore
import Derived.Maps.AppendAt
import Derived.Deep.AppendLies
import Derived.Deep.Draws
import Derived.Lib.Hide
import Derived.WalkKit
import Derived.ProofKit
import Derived.OwnWalk
import Derived.RegionTactic
namespace Go.Proofs.YtippadnbngcjlaaGreatDoor
set_option linter.unusedVariables false

/- Words for memory that all texts of this seat use: frames between two worlds, slices that read as lists. -/
section
open Go.RowKit
@[go_sem] theorem setCell_drewN (w : World) (n : Nat) (a : Addr) (v : Value) : (w.drewN n).setCell a v = (w.setCell a v).drewN n := rfl
@[go_sem] theorem alloc_drewN (w : World) (n : Nat) (o : Obj) : (w.drewN n).alloc o = (w.alloc o).drewN n := rfl
structure Fr (S : List Nat) (w w' : World) : Prop where
 os : w'.os = w.os
 tape : w'.tape = w.tape
 output : w'.output = w.output
 size : w.heap.size ≤ w'.heap.size
 block : ∀ k, k < w.heap.size → k ∉ S → w'.heap[k]? = w.heap[k]?
section
variable {S T : List Nat} {a b c w w' : World}
theorem Fr.refl (S : List Nat) (w : World) : Fr S w w := ⟨rfl, rfl, rfl, Nat.le_refl _, fun _ _ _ => rfl⟩
theorem Fr.trans2 (h : Fr S a b) (k : Fr T b c) (hT : ∀ x ∈ T, x ∈ S ∨ a.heap.size ≤ x) : Fr S a c :=
 ⟨k.os.trans h.os, k.tape.trans h.tape, k.output.trans h.output, Nat.le_trans h.size k.size, fun i hi hn =>
  (k.block i (Nat.lt_of_lt_of_le hi h.size) (fun hm => by rcases hT i hm with h1 | h1 <;> first | exact hn h1 | omega)).trans (h.block i hi hn)⟩
theorem Fr.trans (h : Fr S a b) (k : Fr S b c) : Fr S a c := h.trans2 k fun _ hx => .inl hx
theorem Fr.trans0 (h : Fr S a b) (k : Fr [] b c) : Fr S a c := h.trans2 k fun _ hx => by cases hx
theorem Fr.mono (h : Fr S a b) (hS : ∀ x ∈ S, x ∈ T) : Fr T a b := ⟨h.os, h.tape, h.output, h.size, fun i hi hn => h.block i hi fun hm => hn (hS i hm)⟩
theorem Fr.below (h : Fr [] w w') : Below w.heap.size w w' := ⟨h.os, h.tape, h.output, h.size, fun k hk => h.block k hk (by simp)⟩
theorem Fr.of_below (h : Below w.heap.size w w') : Fr S w w' := ⟨h.os, h.tape, h.output, h.size, fun k hk _ => h.block k hk⟩
theorem Fr.drew (h : Fr S a w) : Fr S a w.drew := ⟨h.os, h.tape, h.output, h.size, h.block⟩
theorem Fr.drewN (h : Fr S a w) (n : Nat) : Fr S a (w.drewN n) := ⟨h.os, h.tape, h.output, h.size, h.block⟩
theorem Fr.alloc (h : Fr S a w) (o : Obj) : Fr S a (w.alloc o) :=
 h.trans2 (T := []) ⟨rfl, rfl, rfl, by simp, fun k hk _ => Below.heap_alloc _ _ _ hk⟩ fun _ hx => by cases hx
theorem Fr.setCell (h : Fr S a w) {p : Addr} (hp : p.block ∈ S ∨ a.heap.size ≤ p.block) (u : Value) : Fr S a (w.setCell p u) :=
 h.trans2 (T := [p.block]) ⟨rfl, rfl, rfl, by simp, fun k _ hk => Below.heap_setCell _ _ _ _ (by simpa using hk)⟩ fun x hx => by
  obtain rfl : x = p.block := by simpa using hx
  exact hp
theorem Fr.grown (h : Fr S a w) {row : Option Nat} (hg : w.grownBy w' row) (hr : ∀ k, row = some k → k ∈ S ∨ a.heap.size ≤ k) : Fr S a w' :=
 h.trans2 (T := row.toList) ⟨hg.os, hg.tape, hg.output, hg.size, fun k hk hn => hg.block k hk (fun e => hn (by rw [← e]; simp))⟩ fun x hx => hr x (by cases row <;> simp_all)
theorem Fr.cell (h : Fr S w w') {p : Addr} {u : Value} (hc : w.cell? p = some u) (hp : p.block ∉ S) : w'.cell? p = some u :=
 (World.cell?_of_block (h.block p.block (World.block_lt_of_cell? w p hc) hp)).trans hc
theorem Fr.heap (h : Fr S w w') {k : Nat} {o : Obj} (hk : w.heap[k]? = some o) (hn : k ∉ S) : w'.heap[k]? = some o :=
 (h.block k (lt_of_block hk) hn).trans hk
end
structure Rd {α : Type} (w : World) (enc : α → Value) (A : Option Addr) (c : Nat) (xs : List α) : Prop where
 le : xs.length ≤ c
 cap : c ≤ maxLen
 at0 : 0 < xs.length → ∃ b off, A = some ⟨b, off, none⟩ ∧ ∀ k x, xs[k]? = some x → w.cell? ⟨b, off + k, none⟩ = some (enc x)
section
variable {α : Type} {w w' : World} {enc : α → Value} {A : Option Addr} {c : Nat} {xs : List α} {S : List Nat} {b off : Nat}
theorem Rd.at_ (h : Rd w enc A c xs) {k : Nat} (hk : k < xs.length) : ∃ b off x, A = some ⟨b, off, none⟩ ∧ Hid (xs[k]? = some x) ∧ w.cell? ⟨b, off + k, none⟩ = some (enc x) := by
 obtain ⟨b, off, hA, hc⟩ := h.at0 (by omega)
 exact ⟨b, off, xs[k], hA, List.getElem?_eq_getElem hk, hc k _ (List.getElem?_eq_getElem hk)⟩
theorem Rd.bound (h : Rd w enc A c xs) : xs.length ≤ 9223372036854775807 := by
 have h1 := h.le
 have h2 := h.cap
 unfold maxLen at h2
 omega
theorem Rd.capBound (h : Rd w enc A c xs) : c ≤ 9223372036854775807 := by
 have h2 := h.cap
 unfold maxLen at h2
 omega
theorem Rd.nil_ (w : World) (enc : α → Value) : Rd w enc none 0 [] := ⟨Nat.le_refl _, by unfold maxLen; omega, fun h => by simp at h⟩
theorem Rd.drewN (h : Rd w enc A c xs) (n : Nat) : Rd (w.drewN n) enc A c xs := ⟨h.le, h.cap, h.at0⟩
theorem Rd.drew (h : Rd w enc A c xs) : Rd w.drew enc A c xs := ⟨h.le, h.cap, h.at0⟩
theorem Rd.fr (h : Rd w enc A c xs) (hf : Fr S w w') (hn : 0 < xs.length → ∀ a, A = some a → a.block ∉ S) : Rd w' enc A c xs :=
 ⟨h.le, h.cap, fun h0 => by
  obtain ⟨b, off, hA, hc⟩ := h.at0 h0
  exact ⟨b, off, hA, fun k x hx => hf.cell (hc k x hx) (hn h0 ⟨b, off, none⟩ hA)⟩⟩
theorem Rd.fr0 (h : Rd w enc A c xs) (hf : Fr [] w w') : Rd w' enc A c xs := h.fr hf (by simp)
theorem Rd.setCell (h : Rd w enc A c xs) {p : Addr} (hn : 0 < xs.length → ∀ a, A = some a → a.block ≠ p.block) (u : Value) : Rd (w.setCell p u) enc A c xs :=
 h.fr ((Fr.refl [p.block] w).setCell (.inl (by simp)) u) (fun h0 a ha => by simpa using hn h0 a ha)
theorem Rd.setCell1 (h : Rd w enc (some ⟨b, off, none⟩) c xs) {p : Addr} (hn : b ≠ p.block) (u : Value) : Rd (w.setCell p u) enc (some ⟨b, off, none⟩) c xs :=
 h.setCell (fun _ a ha => by injection ha with ha; subst ha; exact hn) u
theorem Rd.lt (h : Rd w enc A c xs) (h0 : 0 < xs.length) (a : Addr) (ha : A = some a) : a.block < w.heap.size := by
 obtain ⟨b, off, rfl, hc⟩ := h.at0 h0
 injection ha with ha
 subst ha
 exact World.block_lt_of_cell? w _ (hc 0 xs[0] (by simp))
theorem Rd.alloc (h : Rd w enc A c xs) (o : Obj) : Rd (w.alloc o) enc A c xs := h.fr0 ((Fr.refl _ _).alloc o)
theorem Rd.of_own {base : Nat} {e : TypeId} {n : Nat} (h : w.ownsRow base e 1 (.slice A n c) n (xs.map enc)) : n = xs.length ∧ Rd w enc A c xs := by
 have hl : n = xs.length := by have := h.1; simp at this; omega
 subst hl
 refine ⟨rfl, ?_⟩
 rcases h.2 with ⟨he, h0⟩ | ⟨g, cap, cur, he, hb, hh, hnc, hcm, hsz, htk⟩
 ·injection he with e1 e2 e3
  subst e1 e3
  exact ⟨by omega, by unfold maxLen; omega, fun h1 => by omega⟩
 ·injection he with e1 e2 e3
  subst e1 e3
  exact ⟨hnc, hcm, fun _ => ⟨g, 0, rfl, fun k x hx => by
   have hk : k < xs.length := (List.getElem?_eq_some_iff.1 hx).1
   have := h.cellAt k (by omega)
   rw [Nat.zero_add, this]
   simp [hx]⟩⟩
end
theorem own_form {w : World} {base : Nat} {e : TypeId} {v : Value} {n : Nat} {xs : List Value} {size : Nat} (h : w.ownsRow base e size v n xs) : ∃ A c, v = .slice A n c := by
 rcases h.2 with ⟨rfl, rfl⟩ | ⟨g, cap, _, rfl, _⟩
 ·exact ⟨_, _, rfl⟩
 ·exact ⟨_, _, rfl⟩
theorem own_drewN {w : World} {base : Nat} {e : TypeId} {v : Value} {n size : Nat} {xs : List Value} (h : w.ownsRow base e size v n xs) (k : Nat) : (w.drewN k).ownsRow base e size v n xs := h
def RetQ (w : World) (v : Value) (e : Ending) (w' : World) : Prop := e = .returned v ∧ ∃ n, w' = w.drewN n
def RetV (w : World) (v : Value) (e : Ending) (w' : World) : Prop := e = .returned v ∧ Fr [] w w'
def RetOwn (w : World) (t : TypeId) (xs : List Value) (e : Ending) (w' : World) : Prop :=
 ∃ A c, e = .returned (.slice A xs.length c) ∧ Fr [] w w' ∧ w'.ownsRow w.heap.size t 1 (.slice A xs.length c) xs.length xs
theorem quiet_of {P : Program} {f : FuncId} {args : Array Value} {w : World} {n : Nat} {v : Value} (h : Calls P f args (w.drewN n) (RetQ (w.drewN n) v)) :
  Calls P f args (w.drewN n) fun e w'' => e = .returned v ∧ ∃ m, w'' = w.drewN m :=
 h.mono fun _ _ ⟨he, m, hm⟩ => ⟨he, n + m, by rw [hm, World.drewN_drewN]⟩
theorem quiet_add {P : Program} {f : FuncId} {args : Array Value} {w : World} {a n : Nat} {v : Value} (h : Calls P f args (w.drewN (a + n)) (RetQ (w.drewN (a + n)) v)) :
  Calls P f args (w.drewN (a + n)) fun e w'' => e = .returned v ∧ ∃ m, w'' = w.drewN (a + m) :=
 h.mono fun _ _ ⟨he, m, hm⟩ => ⟨he, n + m, by rw [hm, World.drewN_drewN, Nat.add_assoc]⟩
theorem ret_bool {a b : Bool} (h : a = b) : Ending.returned (.bool a) = .returned (.bool b) := by rw [h]
theorem ret_int {k : IntKind} {a b : Int} (h : a = b) : Ending.returned (.int k a) = .returned (.int k b) := by rw [h]
structure Elem (P : Program) (t e : TypeId) (z : Value) (size bytes : Nat) : Prop where
 und : P.underlying t = some (.slice e)
 inf : (P.info? e).map (fun i => (i.zero, i.size, i.bytes)) = some (some z, size, bytes)
 one : z.cells.size = size
 pos : 0 < size
 byt : 1 ≤ bytes
theorem Rd.one {α : Type} (w : World) (e : TypeId) (enc : α → Value) (x : α) : Rd (w.alloc (.cells #[enc x] e)) enc (some ⟨w.heap.size, 0, none⟩) 1 [x] :=
  ⟨Nat.le_refl _, by unfold maxLen; omega, fun _ => ⟨_, 0, rfl, fun k y hy => by
    match k, hy with
    | 0, hy =>
      simp at hy
      subst hy
      simp⟩⟩

section
variable {P : Program} {w : World}
theorem run_append_rd {α : Type} {t ty e : TypeId} {z : Value} {bytes base n : Nat} (E : Elem P t e z 1 bytes) {v : Value} {xs : List Value} (hown : w.ownsRow base e 1 v n xs)
  {A : Option Addr} {c : Nat} {news : List α} {enc : α → Value} (hr : Rd w enc A c news) (h1 : ∀ y, (enc y).oneCell' = true)
  (hb : (n + news.length) * bytes ≤ 140737488355328) (hbase : base ≤ w.heap.size) :
  ∃ A' c' w', (Builtin.append_ #[t, t] ty #[v, .slice A news.length c]).run P w = .ok (.slice A' (n + news.length) c') w' ∧ w'.ownsRow base e 1 (.slice A' (n + news.length) c') (n + news.length) (xs ++ news.map enc) ∧
   w.grownBy w' v.ownBlock ∧ ((Value.slice A' (n + news.length) c').ownBlock = v.ownBlock ∨ (Value.slice A' (n + news.length) c').ownBlock = some w.heap.size) := by
 obtain ⟨i, hi, hz, hsz, hby⟩ := info_parts E.inf
 have hlen : (news.map enc).length = news.length * 1 := by simp
 rcases Nat.eq_zero_or_pos news.length with h0 | h0
 ·have hn : news = [] := List.eq_nil_of_length_eq_zero h0
  subst hn
  obtain ⟨A', c', rfl⟩ := own_form hown
  refine ⟨A', c', w, ?_, by simpa using hown, World.grownBy.refl w _, .inl rfl⟩
  rcases A with _ | ad
  ·rcases hown.2 with ⟨he, hz0⟩ | ⟨g, cap, cur, he, _, _, hnc, _⟩
   ·injection he with e1 e2 e3
    subst e1 e3
    simp [Builtin.append_, run_underlying E.und, sizeOf, typeInfo, hi, Builtin.lenOf, Builtin.firstCells, hz0]
   ·injection he with e1 e2 e3
    subst e1 e3
    simp [Builtin.append_, run_underlying E.und, sizeOf, typeInfo, hi, Builtin.lenOf, Builtin.firstCells, hnc, storeCells]
  ·rcases hown.2 with ⟨he, hz0⟩ | ⟨g, cap, cur, he, _, _, hnc, _⟩
   ·injection he with e1 e2 e3
    subst e1 e3
    simp [Builtin.append_, run_underlying E.und, sizeOf, typeInfo, hi, Builtin.lenOf, Builtin.firstCells, hz0, loadCells, loadCellsFrom]
   ·injection he with e1 e2 e3
    subst e1 e3
    simp [Builtin.append_, run_underlying E.und, sizeOf, typeInfo, hi, Builtin.lenOf, Builtin.firstCells, hnc, storeCells, loadCells, loadCellsFrom]
 ·obtain ⟨b, off, rfl, hc⟩ := hr.at0 h0
  have hm : n + news.length ≤ maxLen := by
   have hh : (n + news.length) * 1 ≤ (n + news.length) * bytes := Nat.mul_le_mul_left _ E.byt
   unfold maxLen
   omega
  obtain ⟨v', w', hrun, h2, h3, _, h5⟩ := run_append_own_at (P := P) w base t ty e i z 1 bytes E.und hi hz hsz hby E.one E.pos v n xs hown ⟨b, off, none⟩ news.length c (news.map enc) hlen
   (fun j u hu => by
    simp only [List.getElem?_map, Option.map_eq_some_iff] at hu
    obtain ⟨x, hx, rfl⟩ := hu
    rw [Addr.add_lit]
    exact hc j x hx) (fun u hu => by
    obtain ⟨x, _, rfl⟩ := List.mem_map.1 hu
    exact h1 x) hm hb hbase
  obtain ⟨A', c', rfl⟩ := own_form h2
  exact ⟨A', c', w', hrun, h2, h3, h5⟩
theorem wpList_append_rd {α : Type} {ops : Array Oper} {rest : List Oper} {o : Oper} {a : Act} {Q : Exit → Act → World → Prop} (hgd : o.guard = none) (s x : Operand) (t : TypeId)
  (ho : o.op = .call { callee := .builtin .append, args := #[s, x], argTypes := #[t, t] })
  {e : TypeId} {z : Value} {bytes base n : Nat} (E : Elem P t e z 1 bytes) (v : Value) (xs : List Value) (hs : a.eval s = v) (hown : w.ownsRow base e 1 v n xs)
  (A : Option Addr) (c : Nat) (news : List α) (enc : α → Value) (hx : a.eval x = .slice A news.length c) (hr : Rd w enc A c news) (h1 : ∀ y, (enc y).oneCell' = true)
  (hb : (n + news.length) * bytes ≤ 140737488355328) (hbase : base ≤ w.heap.size)
  (h : ∀ A' c' w', w'.ownsRow base e 1 (.slice A' (n + news.length) c') (n + news.length) (xs ++ news.map enc) → w.grownBy w' v.ownBlock →
   ((Value.slice A' (n + news.length) c').ownBlock = v.ownBlock ∨ (Value.slice A' (n + news.length) c').ownBlock = some w.heap.size) → wpList P ops Q rest (a.put o.dst (.slice A' (n + news.length) c')) w') :
  wpList P ops Q (o :: rest) a w := by
 refine wpList_plain hgd fun K hK => ?_
 obtain ⟨A', c', w', hrun, h2, h3, h5⟩ := run_append_rd (P := P) (ty := o.type) E hown hr h1 hb hbase
 unfold Oper.wp execOp
 simp only [ho, resolve, invoke, builtin, Sem.run_bind, Sem.run_pure, Result.andThen_ok, List.map_toArray, List.map_cons, List.map_nil, hs, hx, hrun]
 exact hK _ _ (h A' c' w' h2 h3 h5)
end
def Gath (w : World) (e : TypeId) (zs : List Value) (v : Value) (wr : World) : Prop :=
 ∃ A c, v = .slice A zs.length c ∧ wr.ownsRow w.heap.size e 1 (.slice A zs.length c) zs.length zs ∧ Fr [] w wr
theorem Gath.start (w : World) (e : TypeId) {zs : List Value} (h : zs = []) : Gath w e zs (.slice none 0 0) w := by
 subst h
 exact ⟨none, 0, rfl, World.ownsRow_nil w w.heap.size e 1, Fr.refl _ _⟩
theorem Fr.app {S : List Nat} {w w1 w2 : World} {base n : Nat} {e : TypeId} {v : Value} {xs : List Value} {size : Nat} (hf : Fr S w w1) (h1 : w1.ownsRow base e size v n xs) (hb : w.heap.size ≤ base) (hg : w1.grownBy w2 v.ownBlock) : Fr S w w2 :=
 hf.grown hg fun k hk => .inr (Nat.le_trans hb (h1.lt k hk).1)
theorem Gath.snoc {w w1 w2 : World} {e : TypeId} {v : Value} {n m : Nat} {xs ys zs : List Value} {A : Option Addr} {c : Nat} (hf : Fr [] w w1) (h1 : w1.ownsRow w.heap.size e 1 v n xs) (hg : w1.grownBy w2 v.ownBlock)
  (h2 : w2.ownsRow w.heap.size e 1 (.slice A m c) m ys) (hz : zs = ys) : Gath w e zs (.slice A m c) w2 := by
 subst hz
 have hm : m = zs.length := by have := h2.1; omega
 subst hm
 exact ⟨A, c, rfl, h2, hf.app h1 (Nat.le_refl _) hg⟩
theorem Gath.same {w w1 : World} {e : TypeId} {n c : Nat} {A : Option Addr} {xs zs : List Value} (hf : Fr [] w w1) (h : w1.ownsRow w.heap.size e 1 (.slice A n c) n xs) (hz : zs = xs) : Gath w e zs (.slice A n c) w1 := by
 subst hz
 have hm : n = zs.length := by have := h.1; omega
 subst hm
 exact ⟨A, c, rfl, h, hf⟩
theorem Gath.ret {w w1 : World} {e : TypeId} {n c : Nat} {A : Option Addr} {xs zs : List Value} (hf : Fr [] w w1) (h : w1.ownsRow w.heap.size e 1 (.slice A n c) n xs) (hz : zs = xs) : RetOwn w e zs (.returned (.slice A n c)) w1 := by
 subst hz
 have hm : n = zs.length := by have := h.1; omega
 subst hm
 exact ⟨A, c, rfl, hf, h⟩
theorem wpList_make0 {P : Program} {w : World} {ops : Array Oper} {rest : List Oper} {o : Oper} {a : Act} {Q : Exit → Act → World → Prop}
  (hg : o.guard = none) (l c : Operand) (t : TypeId) (hop : o.op = Op.makeSlice t l c) {e : TypeId} {z : Value} {size bytes : Nat} (E : Elem P t e z size bytes)
  (n : Nat) (hl : a.eval l = .int .i64 0) (hc : a.eval c = .int .i64 n) (hb : bytes * n ≤ 140737488355328)
  (hK : ∀ w', w'.ownsRow w.heap.size e size (.slice (some ⟨w.heap.size, 0, none⟩) 0 n) 0 [] → w.grownBy w' none → wpList P ops Q rest (a.put o.dst (.slice (some ⟨w.heap.size, 0, none⟩) 0 n)) w') :
  wpList P ops Q (o :: rest) a w := by
 obtain ⟨i, hi, hz, hsz, hby⟩ := info_parts E.inf
 have hm : n ≤ maxLen := by
  have hh : 1 * n ≤ bytes * n := Nat.mul_le_mul_right _ E.byt
  unfold maxLen
  omega
 exact wpList_make_own w hg l c t hop w.heap.size e i z size E.und hi hz hsz .i64 .i64 n n hl hc rfl (by rw [hby]; omega) hm (Nat.le_refl _) hK
theorem wpList_makeN {P : Program} {w : World} {ops : Array Oper} {rest : List Oper} {o : Oper} {a : Act} {Q : Exit → Act → World → Prop}
  (hg : o.guard = none) (l c : Operand) (t : TypeId) (hop : o.op = Op.makeSlice t l c) {e : TypeId} {z : Value} {bytes : Nat} (E : Elem P t e z 1 bytes) (hz1 : z.cells = #[z])
  (n : Nat) (hl : a.eval l = .int .i64 n) (hc : a.eval c = .int .i64 n) (hb : bytes * n ≤ 140737488355328)
  (hK : ∀ w', w'.ownsRow w.heap.size e 1 (.slice (some ⟨w.heap.size, 0, none⟩) n n) n (List.replicate n z) → w.grownBy w' none → wpList P ops Q rest (a.put o.dst (.slice (some ⟨w.heap.size, 0, none⟩) n n)) w') :
  wpList P ops Q (o :: rest) a w := by
 obtain ⟨i, hi, hz, hsz, hby⟩ := info_parts E.inf
 have hm : n ≤ maxLen := by
  have hh : 1 * n ≤ bytes * n := Nat.mul_le_mul_right _ E.byt
  unfold maxLen
  omega
 exact wpList_make_full w hg l c t hop w.heap.size e i z 1 E.und hi hz hsz .i64 .i64 n n n hl hc rfl rfl (by rw [hby]; omega) hm (Nat.le_refl _) fun w' h1 h2 => hK w' (by rw [hz1, Nat.mul_one, toList_madeCells_one] at h1; exact h1) h2
theorem Gath.made {w w1 w2 : World} {e : TypeId} {n : Nat} {zs : List Value} {A : Option Addr} (hf : Fr [] w w1) (h : w2.ownsRow w1.heap.size e 1 (.slice A 0 n) 0 []) (hg : w1.grownBy w2 none) (hz : zs = []) : Gath w e zs (.slice A 0 n) w2 := by
 subst hz
 exact ⟨A, n, rfl, ⟨h.1, h.2.imp id fun ⟨g, cap, cur, h1, h2, h3⟩ => ⟨g, cap, cur, h1, Nat.le_trans hf.size h2, h3⟩⟩, hf.grown hg (by simp)⟩
theorem own_rd {α : Type} {w : World} {base n m c : Nat} {e : TypeId} {A : Option Addr} {ys : List Value} {xs : List α} {enc : α → Value} (h : w.ownsRow base e 1 (.slice A n c) m ys) (hy : ys = xs.map enc) (hm : n = m) : Rd w enc A c xs := by
 subst hy hm
 exact (Rd.of_own h).2
theorem own_some {w : World} {base n c size : Nat} {e : TypeId} {A : Option Addr} {xs : List Value} (h : w.ownsRow base e size (.slice A n c) n xs) (h0 : 0 < n) : ∃ g, A = some ⟨g, 0, none⟩ ∧ base ≤ g ∧ g < w.heap.size := by
 rcases h.2 with ⟨he, hz⟩ | ⟨g, cap, cur, he, hb, hh, _⟩
 ·omega
 ·injection he with e1 e2 e3
  exact ⟨g, e1, hb, lt_of_block hh⟩
theorem own_base {w : World} {b b' : Nat} {e : TypeId} {size n : Nat} {v : Value} {xs : List Value} (h : w.ownsRow b e size v n xs) (hb : b' ≤ b) : w.ownsRow b' e size v n xs :=
 ⟨h.1, h.2.imp id fun ⟨g, cap, cur, h1, h2, h3⟩ => ⟨g, cap, cur, h1, Nat.le_trans hb h2, h3⟩⟩
def Blk (w : World) (g : Nat) (t : TypeId) (cs : Array Value) : Prop := w.heap[g]? = some (.cells cs t (0, 0))
section
variable {w w' : World} {g : Nat} {t : TypeId} {cs : Array Value}
theorem Blk.lt (h : Blk w g t cs) : g < w.heap.size := lt_of_block h
theorem Blk.cell (h : Blk w g t cs) (i : Nat) {u : Value} (hu : cs[i]? = some u) : w.cell? ⟨g, i, none⟩ = some u := (cell_of_row w g i cs t (0, 0) h).trans hu
theorem Blk.frozen (h : Blk w g t cs) (i : Nat) : w.frozen? ⟨g, i, none⟩ = false := by
 unfold Blk at h
 simp [World.frozen?, h]
theorem Blk.new (w : World) (t : TypeId) (cs : Array Value) (H : Nat) (hH : H = w.heap.size) : Blk (w.alloc (.cells cs t)) H t cs := by subst hH; exact heap_alloc_new w _
theorem Blk.drewN (h : Blk w g t cs) (n : Nat) : Blk (w.drewN n) g t cs := h
theorem Blk.drew (h : Blk w g t cs) : Blk w.drew g t cs := h
theorem Blk.alloc (h : Blk w g t cs) (o : Obj) : Blk (w.alloc o) g t cs := (Below.heap_alloc w o g h.lt).trans h
theorem Blk.set_ (h : Blk w g t cs) (i : Nat) (u : Value) : Blk (w.setCell ⟨g, i, none⟩ u) g t (cs.setIfInBounds i u) := heap_setCell_same w g i cs t u h
theorem Blk.far (h : Blk w g t cs) {p : Addr} (hp : g ≠ p.block) (u : Value) : Blk (w.setCell p u) g t cs := (Below.heap_setCell w p u g hp).trans h
theorem Blk.fr {S : List Nat} (h : Blk w g t cs) (hf : Fr S w w') (hn : g ∉ S) : Blk w' g t cs := hf.heap h hn
theorem Blk.grown {row : Option Nat} (h : Blk w g t cs) (hg : w.grownBy w' row) (hn : some g ≠ row) : Blk w' g t cs := (hg.block g h.lt hn).trans h
end
theorem Rd.apart {α : Type} {w : World} {enc : α → Value} {A : Option Addr} {c g : Nat} {t : TypeId} {xs : List α} {cs : Array Value} (h : Rd w enc A c xs) (hb : Blk w g t cs)
  (hne : ∀ (i : Nat) (u : Value), cs[i]? = some u → ∀ x, u ≠ enc x) (h0 : 0 < xs.length) (a : Addr) (ha : A = some a) : a.block ≠ g := by
 obtain ⟨b, off, rfl, hc⟩ := h.at0 h0
 injection ha with ha
 subst ha
 rintro rfl
 have h1 := hc 0 xs[0] (by simp)
 rw [cell_of_row w b (off + 0) _ t (0, 0) hb] at h1
 exact hne _ _ h1 _ rfl
theorem own_blk {w : World} {base g n : Nat} {e : TypeId} {xs : List Value} (h : w.ownsRow base e 1 (.slice (some ⟨g, 0, none⟩) n n) n xs) (h0 : 0 < n) : Blk w g e xs.toArray := by
 rcases h.2 with ⟨he, _⟩ | ⟨g', cap, cur, he, _, hh, hnc, _, hsz, htk⟩
 ·simp at he
 ·injection he with e1 e2 e3
  injection e1 with e1
  injection e1 with e1
  subst e1 e3
  have : cur = xs.toArray := by
   have hc : cur.toList.length = n := by simp [hsz]
   rw [List.take_of_length_le (by omega)] at htk
   rw [← htk]
  subst this
  exact hh
theorem Rd.of_blk {α : Type} {w : World} {enc : α → Value} {g : Nat} {t : TypeId} {xs : List α} (h : Blk w g t (xs.map enc).toArray) (hm : xs.length ≤ maxLen) : Rd w enc (some ⟨g, 0, none⟩) xs.length xs :=
 ⟨Nat.le_refl _, hm, fun _ => ⟨g, 0, rfl, fun k x hx => by
  rw [Nat.zero_add, cell_of_row w g k _ t (0, 0) h]
  simp [hx]⟩⟩
def GathN (w : World) (e : TypeId) (zs : List Int) (v : Value) (wr : World) : Prop :=
 ∃ A c, v = .slice A zs.length c ∧ wr.ownsRow w.heap.size e 1 (.slice A zs.length c) zs.length (zs.map (.int .i64)) ∧ Fr [] w wr
theorem GathN.start (w : World) (e : TypeId) {zs : List Int} (h : zs = []) : GathN w e zs (.slice none 0 0) w := by
 subst h
 exact ⟨none, 0, rfl, World.ownsRow_nil w w.heap.size e 1, Fr.refl _ _⟩
theorem GathN.made {w w1 w2 : World} {e : TypeId} {n : Nat} {zs : List Int} {A : Option Addr} (hf : Fr [] w w1) (h : w2.ownsRow w1.heap.size e 1 (.slice A 0 n) 0 []) (hg : w1.grownBy w2 none) (hz : zs = []) : GathN w e zs (.slice A 0 n) w2 := by
 subst hz
 exact ⟨A, n, rfl, own_base h hf.size, hf.grown hg (by simp)⟩
theorem GathN.snoc {w w1 w2 : World} {e : TypeId} {v : Value} {n m : Nat} {xs : List Value} {ys : List Value} {zs : List Int} {A : Option Addr} {c : Nat} (hf : Fr [] w w1) (h1 : w1.ownsRow w.heap.size e 1 v n xs) (hg : w1.grownBy w2 v.ownBlock)
  (h2 : w2.ownsRow w.heap.size e 1 (.slice A m c) m ys) (hz : zs.map (.int .i64) = ys) : GathN w e zs (.slice A m c) w2 := by
 subst hz
 obtain ⟨hm, _⟩ := Rd.of_own h2
 subst hm
 exact ⟨A, c, rfl, h2, hf.app h1 (Nat.le_refl _) hg⟩
theorem GathN.same {w w1 : World} {e : TypeId} {n c : Nat} {A : Option Addr} {xs : List Value} {zs : List Int} (hf : Fr [] w w1) (h : w1.ownsRow w.heap.size e 1 (.slice A n c) n xs) (hz : zs.map (.int .i64) = xs) : GathN w e zs (.slice A n c) w1 := by
 subst hz
 obtain ⟨hm, _⟩ := Rd.of_own h
 subst hm
 exact ⟨A, c, rfl, h, hf⟩
def RetN (w : World) (t : TypeId) (zs : List Int) (e : Ending) (w' : World) : Prop :=
 ∃ A c, e = .returned (.slice A zs.length c) ∧ Fr [] w w' ∧ w'.ownsRow w.heap.size t 1 (.slice A zs.length c) zs.length (zs.map (.int .i64))
theorem GathN.ret {w w1 : World} {e : TypeId} {n c : Nat} {A : Option Addr} {xs : List Value} {zs : List Int} (hf : Fr [] w w1) (h : w1.ownsRow w.heap.size e 1 (.slice A n c) n xs) (hz : zs.map (.int .i64) = xs) : RetN w e zs (.returned (.slice A n c)) w1 := by
 subst hz
 obtain ⟨hm, _⟩ := Rd.of_own h
 subst hm
 exact ⟨A, c, rfl, hf, h⟩
theorem RetOwn.n {w w' : World} {t : TypeId} {zs : List Int} {e : Ending} (h : RetOwn w t (zs.map (.int .i64)) e w') : RetN w t zs e w' := by
 obtain ⟨A, c, he, hf, ho⟩ := h
 rw [List.length_map] at he ho
 exact ⟨A, c, he, hf, ho⟩
def Nw (B : Nat) (A : Option Addr) : Prop := ∀ a, A = some a → B ≤ a.block
theorem Nw.none_ (B : Nat) : Nw B none := fun _ h => by cases h
theorem Nw.mono {B B' : Nat} {A : Option Addr} (h : Nw B A) (hb : B' ≤ B) : Nw B' A := fun a ha => Nat.le_trans hb (h a ha)
theorem Nw.at_ {B b off : Nat} (h : B ≤ b) : Nw B (some ⟨b, off, none⟩) := fun a ha => by injection ha with ha; subst ha; exact h
theorem Nw.own {w : World} {base n c size : Nat} {e : TypeId} {A : Option Addr} {xs : List Value} (h : w.ownsRow base e size (.slice A n c) n xs) : Nw base A := fun a ha => by
 subst ha
 exact (h.lt a.block rfl).1
theorem own_fr {S : List Nat} {w w' : World} {base n size : Nat} {e : TypeId} {v : Value} {xs : List Value} (h : w.ownsRow base e size v n xs) (hf : Fr S w w') (hn : ∀ k, v.ownBlock = some k → k ∉ S) : w'.ownsRow base e size v n xs := by
 refine ⟨h.1, ?_⟩
 rcases h.2 with h0 | ⟨g, cap, cur, rfl, hb, hh, rest⟩
 ·exact .inl h0
 ·exact .inr ⟨g, cap, cur, rfl, hb, hf.heap hh (hn g rfl), rest⟩
theorem frx {S : List Nat} {w w' : World} (h : Fr S w w' := by repeat (first | exact Fr.refl _ _ | assumption | apply Fr.drewN | apply Fr.drew | apply Fr.alloc | refine Fr.setCell ?_ (by simp) _)) : Fr S w w' := h
end

/- Trees: what a value of api.Tree reads as. -/
section
open Go.RowKit
inductive T where
 | mk (kind : Int) (text : ByteArray) (slots : List (List T))
def T.kind : T → Int | .mk k _ _ => k
def T.text : T → ByteArray | .mk _ s _ => s
def T.slots : T → List (List T) | .mk _ _ l => l
theorem T.eta (t : T) : T.mk t.kind t.text t.slots = t := by cases t; rfl
section
variable {α : Type} (f : T → List (List α) → α)
mutual
def T.para : T → α
 | .mk k s l => f (.mk k s l) (T.paraRows l)
def T.paraRows : List (List T) → List (List α)
 | [] => []
 | r :: l => T.paraRow r :: T.paraRows l
def T.paraRow : List T → List α
 | [] => []
 | x :: r => T.para x :: T.paraRow r
end
theorem T.paraRow_eq : ∀ r : List T, T.paraRow f r = r.map (T.para f)
 | [] => by rw [T.paraRow]; rfl
 | x :: r => by rw [T.paraRow, T.paraRow_eq r]; rfl
theorem T.paraRows_eq : ∀ l : List (List T), T.paraRows f l = l.map (·.map (T.para f))
 | [] => by rw [T.paraRows]; rfl
 | r :: l => by rw [T.paraRows, T.paraRow_eq, T.paraRows_eq l]; rfl
theorem T.para_eq (t : T) : t.para f = f t (t.slots.map (·.map (T.para f))) := by
 cases t
 rw [T.para, T.paraRows_eq]
 rfl
end
theorem T.ind {P : T → Prop} (h : ∀ t : T, (∀ row ∈ t.slots, ∀ x ∈ row, P x) → P t) (t : T) : P t :=
 T.rec (motive_1 := P) (motive_2 := fun l => ∀ row ∈ l, ∀ x ∈ row, P x) (motive_3 := fun r => ∀ x ∈ r, P x)
  (fun k s l hl => h (.mk k s l) hl) (fun _ hr => by cases hr) (fun r l h1 h2 row hr => by
   rcases List.mem_cons.1 hr with rfl | hr
   ·exact h1
   ·exact h2 row hr) (fun _ hx => by cases hx) (fun x r h1 h2 y hy => by
   rcases List.mem_cons.1 hy with rfl | hy
   ·exact h1
   ·exact h2 y hy) t
def fold2 {α β : Type} (f : β → α → β) (b : β) (l : List (List α)) : β := l.foldl (fun b r => r.foldl f b) b
section
variable {α β γ : Type} {f : β → α → β} {b : β} {l : List (List α)} {r : List α} {x : α} {i k : Nat}
theorem fold2_map (f : β → γ → β) (g : α → γ) (b : β) (l : List (List α)) : fold2 f b (l.map (·.map g)) = fold2 (fun b x => f b (g x)) b l := by
 unfold fold2
 rw [List.foldl_map]
 congr 1
 funext b r
 rw [List.foldl_map]
theorem fold_take (h : Hid (r[k]? = some x)) : (r.take (k + 1)).foldl f b = f ((r.take k).foldl f b) x := by
 rw [List.take_add_one, h.out]
 simp
theorem fold2_take (h : Hid (l[i]? = some r)) : fold2 f b (l.take (i + 1)) = r.foldl f (fold2 f b (l.take i)) := by
 unfold fold2
 rw [List.take_add_one, h.out]
 simp
theorem fold_inc {m : β → Nat} (hm : ∀ b x, m b ≤ m (f b x)) : ∀ (r : List α) (b : β), m b ≤ m (r.foldl f b)
 | [], _ => Nat.le_refl _
 | x :: r, b => Nat.le_trans (hm b x) (fold_inc hm r (f b x))
theorem fold2_inc {m : β → Nat} (hm : ∀ b x, m b ≤ m (f b x)) : ∀ (l : List (List α)) (b : β), m b ≤ m (fold2 f b l)
 | [], _ => Nat.le_refl _
 | r :: l, b => Nat.le_trans (fold_inc hm r b) (fold2_inc hm l _)
theorem fold_take_le {m : β → Nat} (hm : ∀ b x, m b ≤ m (f b x)) (r : List α) (b : β) (k : Nat) : m ((r.take k).foldl f b) ≤ m (r.foldl f b) := by
 conv => rhs; rw [← List.take_append_drop k r, List.foldl_append]
 exact fold_inc hm _ _
theorem fold2_take_le {m : β → Nat} (hm : ∀ b x, m b ≤ m (f b x)) (l : List (List α)) (b : β) (i : Nat) : m (fold2 f b (l.take i)) ≤ m (fold2 f b l) := by
 conv => rhs; rw [← List.take_append_drop i l]
 unfold fold2
 rw [List.foldl_append]
 exact fold2_inc hm _ _
theorem fold2_in_le {m : β → Nat} (hm : ∀ b x, m b ≤ m (f b x)) (h : Hid (l[i]? = some r)) (b : β) (k : Nat) : m ((r.take k).foldl f (fold2 f b (l.take i))) ≤ m (fold2 f b l) := by
 refine Nat.le_trans (fold_take_le hm r _ k) ?_
 rw [← fold2_take h]
 exact fold2_take_le hm l b _
end
def T.nodes : T → Nat := T.para fun _ rows => fold2 (· + ·) 1 rows
def T.depth : T → Nat := T.para fun _ rows => fold2 max 0 rows + 1
theorem T.nodes_eq (t : T) : t.nodes = fold2 (fun n (x : T) => n + x.nodes) 1 t.slots := by
 unfold T.nodes
 rw [T.para_eq, fold2_map]
theorem T.depth_eq (t : T) : t.depth = fold2 (fun n (x : T) => max n x.depth) 0 t.slots + 1 := by
 unfold T.depth
 rw [T.para_eq, fold2_map]
theorem T.nodes_pos (t : T) : 1 ≤ t.nodes := by
 rw [T.nodes_eq]
 exact fold2_inc (m := id) (fun b x => Nat.le_add_right _ _) _ _
theorem nodes_in {t : T} {i : Nat} {r : List T} (h : Hid (t.slots[i]? = some r)) (k : Nat) : (r.take k).foldl (fun n (x : T) => n + x.nodes) (fold2 (fun n (x : T) => n + x.nodes) 1 (t.slots.take i)) ≤ t.nodes := by
 rw [T.nodes_eq]
 exact fold2_in_le (m := id) (fun b x => Nat.le_add_right _ _) h _ _
theorem nodes_upto (t : T) (i : Nat) : fold2 (fun n (x : T) => n + x.nodes) 1 (t.slots.take i) ≤ t.nodes := by
 rw [T.nodes_eq]
 exact fold2_take_le (m := id) (fun b x => Nat.le_add_right _ _) _ _ _
theorem nodes_below {t : T} {i k : Nat} {r : List T} {x : T} (h : Hid (t.slots[i]? = some r)) (hx : Hid (r[k]? = some x)) : x.nodes < t.nodes := by
 have h1 := nodes_in h (k + 1)
 rw [fold_take hx] at h1
 have h2 : 1 ≤ (r.take k).foldl (fun n (x : T) => n + x.nodes) (fold2 (fun n (x : T) => n + x.nodes) 1 (t.slots.take i)) :=
  Nat.le_trans (fold2_inc (m := id) (fun b x => Nat.le_add_right _ _) _ _) (fold_inc (m := id) (fun b x => Nat.le_add_right _ _) _ _)
 omega
theorem depth_le_nodes (t : T) : t.depth ≤ t.nodes := by
  induction t using T.ind with
  | h t ih =>
    rw [T.depth_eq, T.nodes_eq]
    have hr : ∀ (r : List T), (∀ x ∈ r, x.depth ≤ x.nodes) → ∀ a b : Nat, a + 1 ≤ b → r.foldl (fun n (x : T) => max n x.depth) a + 1 ≤ r.foldl (fun n (x : T) => n + x.nodes) b := by
      intro r
      induction r with
      | nil => intro _ a b h; exact h
      | cons x r ihr =>
        intro h a b hab
        refine ihr (fun y hy => h y (by simp [hy])) _ _ ?_
        have := h x (by simp)
        show max a x.depth + 1 ≤ b + x.nodes
        omega
    have hl : ∀ (l : List (List T)), (∀ r ∈ l, ∀ x ∈ r, x.depth ≤ x.nodes) → ∀ a b : Nat, a + 1 ≤ b → fold2 (fun n (x : T) => max n x.depth) a l + 1 ≤ fold2 (fun n (x : T) => n + x.nodes) b l := by
      intro l
      induction l with
      | nil => intro _ a b h; exact h
      | cons r l ihl =>
        intro h a b hab
        exact ihl (fun s hs => h s (by simp [hs])) _ _ (hr r (h r (by simp)) a b hab)
    exact hl _ ih 0 1 (by omega)

structure RowB (S : Nat → Prop) (R : Option Addr → Nat → T → Prop) (w : World) (A : Option Addr) (c : Nat) (r : List T) : Prop where
 le : r.length ≤ c
 cap : c ≤ maxLen
 at0 : 0 < r.length → ∃ b off, A = some ⟨b, off, none⟩ ∧ ¬ S b ∧ ∀ k x, r[k]? = some x → w.cell? ⟨b, off + k * 3, none⟩ = some (.int .i64 x.kind) ∧ w.cell? ⟨b, off + k * 3 + 1, none⟩ = some (.string x.text) ∧
  ∃ A' c', w.cell? ⟨b, off + k * 3 + 2, none⟩ = some (.slice A' x.slots.length c') ∧ R A' c' x
structure RowsB (S : Nat → Prop) (R : Option Addr → Nat → T → Prop) (w : World) (A : Option Addr) (c : Nat) (l : List (List T)) : Prop where
 le : l.length ≤ c
 cap : c ≤ maxLen
 at0 : 0 < l.length → ∃ b off, A = some ⟨b, off, none⟩ ∧ ¬ S b ∧ ∀ i r, l[i]? = some r → ∃ A' c', w.cell? ⟨b, off + i, none⟩ = some (.slice A' r.length c') ∧ RowB S R w A' c' r
def RH (S : Nat → Prop) : Nat → World → Option Addr → Nat → T → Prop
 | 0, _, _, _, _ => False
 | n + 1, w, A, c, t => RowsB S (fun A c x => RH S n w A c x) w A c t.slots
def RT (S : Nat → Prop) (n : Nat) (w : World) (v : Value) (t : T) : Prop := ∃ A c, v = .agg #[.int .i64 t.kind, .string t.text, .slice A t.slots.length c] ∧ RH S n w A c t
section
variable {S S' : Nat → Prop} {R R' : Option Addr → Nat → T → Prop} {w w' : World} {A : Option Addr} {c n m : Nat} {r : List T} {l : List (List T)} {t : T} {v : Value}
theorem RowB.imp (h : RowB S R w A c r) (hS : ∀ k, k < w.heap.size → ¬ S k → ¬ S' k) (hR : ∀ A c x, x ∈ r → R A c x → R' A c x) (hc : ∀ p u, ¬ S p.block → w.cell? p = some u → w'.cell? p = some u) : RowB S' R' w' A c r :=
 ⟨h.le, h.cap, fun h0 => by
  obtain ⟨b, off, hA, hb, hx⟩ := h.at0 h0
  have hlt : b < w.heap.size := World.block_lt_of_cell? w _ (hx 0 r[0] (by simp)).1
  refine ⟨b, off, hA, hS b hlt hb, fun k x hk => ?_⟩
  obtain ⟨h1, h2, A', c', h3, h4⟩ := hx k x hk
  exact ⟨hc _ _ hb h1, hc _ _ hb h2, A', c', hc _ _ hb h3, hR _ _ _ (List.mem_of_getElem? hk) h4⟩⟩
theorem RowsB.imp (h : RowsB S R w A c l) (hS : ∀ k, k < w.heap.size → ¬ S k → ¬ S' k) (hR : ∀ A c x, (∃ r ∈ l, x ∈ r) → R A c x → R' A c x) (hc : ∀ p u, ¬ S p.block → w.cell? p = some u → w'.cell? p = some u) : RowsB S' R' w' A c l :=
 ⟨h.le, h.cap, fun h0 => by
  obtain ⟨b, off, hA, hb, hx⟩ := h.at0 h0
  have hlt : b < w.heap.size := by
   obtain ⟨A', c', h1, _⟩ := hx 0 l[0] (by simp)
   exact World.block_lt_of_cell? w _ h1
  refine ⟨b, off, hA, hS b hlt hb, fun i r hi => ?_⟩
  obtain ⟨A', c', h1, h2⟩ := hx i r hi
  exact ⟨A', c', hc _ _ hb h1, h2.imp hS (fun A c x hx hr => hR A c x ⟨r, List.mem_of_getElem? hi, hx⟩ hr) hc⟩⟩
theorem RH.imp (hS : ∀ k, k < w.heap.size → ¬ S k → ¬ S' k) (hc : ∀ p u, ¬ S p.block → w.cell? p = some u → w'.cell? p = some u) : ∀ {n m : Nat} {A : Option Addr} {c : Nat} {t : T}, n ≤ m → RH S n w A c t → RH S' m w' A c t
 | 0, _, _, _, _, _, h => absurd h id
 | n + 1, 0, _, _, _, hl, _ => absurd hl (by omega)
 | n + 1, m + 1, _, _, _, hl, h => RowsB.imp h hS (fun _ _ _ _ hr => RH.imp hS hc (Nat.le_of_succ_le_succ hl) hr) hc
theorem RH.mono (h : RH S n w A c t) (hl : n ≤ m) : RH S m w A c t := RH.imp (fun _ _ h => h) (fun _ _ _ h => h) hl h
theorem RH.fr {Z : List Nat} (h : RH S n w A c t) (hf : Fr Z w w') (hS : ∀ k ∈ Z, S k) : RH S n w' A c t := RH.imp (fun _ _ h => h) (fun p u hp h1 => hf.cell h1 fun hm => hp (hS _ hm)) (Nat.le_refl _) h
theorem RH.fr0 (h : RH S n w A c t) (hf : Fr [] w w') : RH S n w' A c t := h.fr hf (by simp)
theorem RH.sub (h : RH S n w A c t) (hS : ∀ k, k < w.heap.size → S' k → S k) : RH S' n w A c t := RH.imp (fun k hk h hm => h (hS k hk hm)) (fun _ _ _ h => h) (Nat.le_refl _) h
theorem RowB.fr0 (h : RowB S (fun A c x => RH S n w A c x) w A c r) (hf : Fr [] w w') : RowB S (fun A c x => RH S n w' A c x) w' A c r :=
 h.imp (fun _ _ h => h) (fun _ _ _ _ h => h.fr0 hf) (fun p u _ h1 => hf.cell h1 (by simp))
theorem RT.fr {Z : List Nat} (h : RT S n w v t) (hf : Fr Z w w') (hS : ∀ k ∈ Z, S k) : RT S n w' v t := by
 obtain ⟨A, c, hv, h⟩ := h
 exact ⟨A, c, hv, h.fr hf hS⟩
theorem RT.fr0 (h : RT S n w v t) (hf : Fr [] w w') : RT S n w' v t := h.fr hf (by simp)
theorem RT.mono (h : RT S n w v t) (hl : n ≤ m) : RT S m w v t := by
 obtain ⟨A, c, hv, h⟩ := h
 exact ⟨A, c, hv, h.mono hl⟩
theorem RT.sub (h : RT S n w v t) (hS : ∀ k, k < w.heap.size → S' k → S k) : RT S' n w v t := by
 obtain ⟨A, c, hv, h⟩ := h
 exact ⟨A, c, hv, h.sub hS⟩
theorem RowsB.at_ (h : RowsB S R w A c l) {i : Nat} (hi : i < l.length) : ∃ b off r A' c', A = some ⟨b, off, none⟩ ∧ Hid (l[i]? = some r) ∧ w.cell? ⟨b, off + i, none⟩ = some (.slice A' r.length c') ∧ RowB S R w A' c' r ∧ r.length ≤ 9223372036854775807 := by
 obtain ⟨b, off, hA, _, hx⟩ := h.at0 (by omega)
 obtain ⟨A', c', h1, h2⟩ := hx i _ (List.getElem?_eq_getElem hi)
 exact ⟨b, off, _, A', c', hA, List.getElem?_eq_getElem hi, h1, h2, by have h3 := h2.le; have h4 := h2.cap; unfold maxLen at h4; omega⟩
theorem RowB.at_ (h : RowB S R w A c r) {k : Nat} (hk : k < r.length) : ∃ b off x A' c', A = some ⟨b, off, none⟩ ∧ Hid (r[k]? = some x) ∧ w.cell? ⟨b, off + k * 3, none⟩ = some (.int .i64 x.kind) ∧ w.cell? ⟨b, off + k * 3 + 1, none⟩ = some (.string x.text) ∧
  w.cell? ⟨b, off + k * 3 + 2, none⟩ = some (.slice A' x.slots.length c') ∧ R A' c' x := by
 obtain ⟨b, off, hA, _, hx⟩ := h.at0 (by omega)
 obtain ⟨h1, h2, A', c', h3, h4⟩ := hx k _ (List.getElem?_eq_getElem hk)
 exact ⟨b, off, _, A', c', hA, List.getElem?_eq_getElem hk, h1, h2, h3, h4⟩
theorem RowsB.bound (h : RowsB S R w A c l) : l.length ≤ 9223372036854775807 := by
 have h1 := h.le
 have h2 := h.cap
 unfold maxLen at h2
 omega
theorem RowB.bound (h : RowB S R w A c r) : r.length ≤ 9223372036854775807 := by
 have h1 := h.le
 have h2 := h.cap
 unfold maxLen at h2
 omega
end
end

/- Grammars: what a value of api.Grammar reads as. -/
section
open Go.RowKit
structure Sl where
 many : Int
 kinds : List Int
 between : ByteArray
structure Ru where
 before : ByteArray
 after : ByteArray
 leaf : Bool
 slots : List Sl
structure RSl (w : World) (A : Option Addr) (c : Nat) (l : List Sl) : Prop where
 le : l.length ≤ c
 cap : c ≤ maxLen
 at0 : 0 < l.length → ∃ b off, A = some ⟨b, off, none⟩ ∧ ∀ k s, l[k]? = some s → (0 ≤ s.many ∧ s.many ≤ 255) ∧ w.cell? ⟨b, off + k * 3, none⟩ = some (.int .u8 s.many) ∧
  (∃ A1 c1, w.cell? ⟨b, off + k * 3 + 1, none⟩ = some (.slice A1 s.kinds.length c1) ∧ Rd w (.int .i64) A1 c1 s.kinds) ∧ w.cell? ⟨b, off + k * 3 + 2, none⟩ = some (.string s.between)
structure RRu (w : World) (A : Option Addr) (c : Nat) (g : List Ru) : Prop where
 le : g.length ≤ c
 cap : c ≤ maxLen
 at0 : 0 < g.length → ∃ b off, A = some ⟨b, off, none⟩ ∧ ∀ k r, g[k]? = some r → w.cell? ⟨b, off + k * 4, none⟩ = some (.string r.before) ∧ w.cell? ⟨b, off + k * 4 + 1, none⟩ = some (.string r.after) ∧
  w.cell? ⟨b, off + k * 4 + 2, none⟩ = some (.bool r.leaf) ∧ ∃ A1 c1, w.cell? ⟨b, off + k * 4 + 3, none⟩ = some (.slice A1 r.slots.length c1) ∧ RSl w A1 c1 r.slots
section
variable {w w' : World} {A : Option Addr} {c : Nat} {l : List Sl} {g : List Ru}
theorem RSl.fr0 (h : RSl w A c l) (hf : Fr [] w w') : RSl w' A c l :=
 ⟨h.le, h.cap, fun h0 => by
  obtain ⟨b, off, hA, hc⟩ := h.at0 h0
  refine ⟨b, off, hA, fun k s hs => ?_⟩
  obtain ⟨h1, h2, ⟨A1, c1, h3, h4⟩, h5⟩ := hc k s hs
  exact ⟨h1, hf.cell h2 (by simp), ⟨A1, c1, hf.cell h3 (by simp), h4.fr0 hf⟩, hf.cell h5 (by simp)⟩⟩
theorem RSl.at_ (h : RSl w A c l) {k : Nat} (hk : k < l.length) : ∃ b off s A1 c1, A = some ⟨b, off, none⟩ ∧ Hid (l[k]? = some s) ∧ (0 ≤ s.many ∧ s.many ≤ 255) ∧ w.cell? ⟨b, off + k * 3, none⟩ = some (.int .u8 s.many) ∧
  w.cell? ⟨b, off + k * 3 + 1, none⟩ = some (.slice A1 s.kinds.length c1) ∧ Rd w (.int .i64) A1 c1 s.kinds ∧ w.cell? ⟨b, off + k * 3 + 2, none⟩ = some (.string s.between) := by
 obtain ⟨b, off, hA, hc⟩ := h.at0 (by omega)
 obtain ⟨h1, h2, ⟨A1, c1, h3, h4⟩, h5⟩ := hc k l[k] (List.getElem?_eq_getElem hk)
 exact ⟨b, off, l[k], A1, c1, hA, List.getElem?_eq_getElem hk, h1, h2, h3, h4, h5⟩
theorem RSl.bound (h : RSl w A c l) : l.length ≤ 9223372036854775807 := by
 have h1 := h.le
 have h2 := h.cap
 unfold maxLen at h2
 omega
theorem RRu.fr0 (h : RRu w A c g) (hf : Fr [] w w') : RRu w' A c g :=
 ⟨h.le, h.cap, fun h0 => by
  obtain ⟨b, off, hA, hc⟩ := h.at0 h0
  refine ⟨b, off, hA, fun k r hr => ?_⟩
  obtain ⟨h1, h2, h3, A1, c1, h4, h5⟩ := hc k r hr
  exact ⟨hf.cell h1 (by simp), hf.cell h2 (by simp), hf.cell h3 (by simp), A1, c1, hf.cell h4 (by simp), h5.fr0 hf⟩⟩
theorem RRu.at_ (h : RRu w A c g) {k : Nat} (hk : k < g.length) : ∃ b off r A1 c1, A = some ⟨b, off, none⟩ ∧ Hid (g[k]? = some r) ∧ w.cell? ⟨b, off + k * 4, none⟩ = some (.string r.before) ∧ w.cell? ⟨b, off + k * 4 + 1, none⟩ = some (.string r.after) ∧
  w.cell? ⟨b, off + k * 4 + 2, none⟩ = some (.bool r.leaf) ∧ w.cell? ⟨b, off + k * 4 + 3, none⟩ = some (.slice A1 r.slots.length c1) ∧ RSl w A1 c1 r.slots := by
 obtain ⟨b, off, hA, hc⟩ := h.at0 (by omega)
 obtain ⟨h1, h2, h3, A1, c1, h4, h5⟩ := hc k g[k] (List.getElem?_eq_getElem hk)
 exact ⟨b, off, g[k], A1, c1, hA, List.getElem?_eq_getElem hk, h1, h2, h3, h4, h5⟩
theorem RRu.bound (h : RRu w A c g) : g.length ≤ 9223372036854775807 := by
 have h1 := h.le
 have h2 := h.cap
 unfold maxLen at h2
 omega
end
def RG (w : World) (v : Value) (g : List Ru) : Prop := ∃ A c, v = .agg #[.slice A g.length c] ∧ RRu w A c g
theorem RG.fr0 {w w' : World} {v : Value} {g : List Ru} (h : RG w v g) (hf : Fr [] w w') : RG w' v g := by
 obtain ⟨A, c, hv, h⟩ := h
 exact ⟨A, c, hv, h.fr0 hf⟩
end

/- The sizes of the least trees of a grammar: plain. -/
section
open Go.RowKit
abbrev MUCH : Int := 1073741824
def getI (L : List Int) (k : Int) : Int := L.getD k.toNat 0
theorem getI_at {L : List Int} {k : Nat} {x : Int} (h : L[k]? = some x) : getI L k = x := by simp [getI, h]
def lowStep (L : List Int) (best k : Int) : Int := if getI L k < getI L best then k else best
def lowestL (L kinds : List Int) : Int := kinds.foldl (lowStep L) (kinds.headD 0)
def costStep (M : Int) (L : List Int) (n : Int) (s : Sl) : Int := if s.many = 0 then min (n + getI L (lowestL L s.kinds)) M else n
def costRu (M : Int) (L : List Int) (r : Ru) : Int := r.slots.foldl (costStep M L) 1
def KindsOk (n : Nat) (r : Ru) : Prop := ∀ s ∈ r.slots, s.kinds ≠ [] ∧ ∀ k ∈ s.kinds, 0 ≤ k ∧ k < n
def IsSz (M : Int) (g : List Ru) (L : List Int) : Prop := L.length = g.length ∧ ∀ (k : Nat) r, g[k]? = some r → L[k]? = some (costRu M L r)
def SzInv (M : Int) (g : List Ru) (L : List Int) : Prop := L.length = g.length ∧ ∀ (k : Nat) r, g[k]? = some r → ∃ n, L[k]? = some n ∧ costRu M L r ≤ n ∧ n ≤ M
def LeL (L L' : List Int) : Prop := ∀ k : Int, getI L k ≤ getI L' k
theorem low_fold (L : List Int) : ∀ (ks : List Int) (b : Int), (ks.foldl (lowStep L) b = b ∨ ks.foldl (lowStep L) b ∈ ks) ∧ getI L (ks.foldl (lowStep L) b) ≤ getI L b ∧ ∀ k ∈ ks, getI L (ks.foldl (lowStep L) b) ≤ getI L k
  | [], b => ⟨.inl rfl, Int.le_refl _, by simp⟩
  | k :: ks, b => by
    obtain ⟨h1, h2, h3⟩ := low_fold L ks (lowStep L b k)
    rw [List.foldl_cons]
    have hs : (lowStep L b k = b ∨ lowStep L b k = k) ∧ getI L (lowStep L b k) ≤ getI L b ∧ getI L (lowStep L b k) ≤ getI L k := by
      unfold lowStep
      split
      · exact ⟨.inr rfl, by omega, by omega⟩
      · exact ⟨.inl rfl, by omega, by omega⟩
    refine ⟨?_, by omega, ?_⟩
    · rcases h1 with h1 | h1
      · rw [h1]
        rcases hs.1 with h | h
        · exact .inl h
        · exact .inr (by rw [h]; simp)
      · exact .inr (by simp [h1])
    · intro x hx
      rcases List.mem_cons.1 hx with rfl | hx
      · omega
      · exact h3 x hx
theorem lowest_mem {L kinds : List Int} (h : kinds ≠ []) : lowestL L kinds ∈ kinds := by
  unfold lowestL
  cases kinds with
  | nil => exact absurd rfl h
  | cons a l =>
    rcases (low_fold L (a :: l) a).1 with h1 | h1
    · show (a :: l).foldl (lowStep L) a ∈ _
      rw [h1]; simp
    · exact h1
theorem lowest_le {L kinds : List Int} {k : Int} (h : k ∈ kinds) : getI L (lowestL L kinds) ≤ getI L k := (low_fold L kinds _).2.2 k h
theorem lowest_mono {L L' kinds : List Int} (hn : kinds ≠ []) (h : LeL L L') : getI L (lowestL L kinds) ≤ getI L' (lowestL L' kinds) :=
 Int.le_trans (lowest_le (lowest_mem hn)) (h _)
theorem cost_mono {M : Int} {L L' : List Int} (h : LeL L L') : ∀ (l : List Sl) (a b : Int), (∀ s ∈ l, s.kinds ≠ []) → a ≤ b → l.foldl (costStep M L) a ≤ l.foldl (costStep M L') b
  | [], _, _, _, hab => hab
  | s :: l, a, b, hs, hab => by
    refine cost_mono h l _ _ (fun t ht => hs t (by simp [ht])) ?_
    have h1 := lowest_mono (hs s (by simp)) h
    unfold costStep
    split <;> omega
theorem costRu_mono {M : Int} {L L' : List Int} {n : Nat} {r : Ru} (hk : KindsOk n r) (h : LeL L L') : costRu M L r ≤ costRu M L' r := cost_mono h _ _ _ (fun s hs => (hk s hs).1) (Int.le_refl _)
def Pos (n : Nat) (L : List Int) : Prop := ∀ k : Int, 0 ≤ k → k < n → 1 ≤ getI L k
theorem cost_bd {M : Int} {L : List Int} {n : Nat} (hp : Pos n L) : ∀ (l : List Sl) (a : Int), (∀ s ∈ l, s.kinds ≠ [] ∧ ∀ k ∈ s.kinds, 0 ≤ k ∧ k < n) → a ≤ M → a ≤ l.foldl (costStep M L) a ∧ l.foldl (costStep M L) a ≤ M
  | [], a, _, h => ⟨Int.le_refl _, h⟩
  | s :: l, a, hs, h => by
    have h1 := hs s (by simp)
    have h2 := h1.2 _ (lowest_mem (L := L) h1.1)
    have h3 := hp _ h2.1 h2.2
    have hst : a ≤ costStep M L a s ∧ costStep M L a s ≤ M := by
      unfold costStep
      split <;> omega
    obtain ⟨h4, h5⟩ := cost_bd hp l (costStep M L a s) (fun t ht => hs t (by simp [ht])) hst.2
    exact ⟨by rw [List.foldl_cons]; omega, h5⟩
theorem costRu_bd {M : Int} {L : List Int} {n : Nat} {r : Ru} (hp : Pos n L) (hk : KindsOk n r) (hM : 1 ≤ M) : 1 ≤ costRu M L r ∧ costRu M L r ≤ M := cost_bd hp _ _ hk hM
theorem cost_part {M : Int} {L : List Int} {n : Nat} (hp : Pos n L) : ∀ (l : List Sl) (a : Int), (∀ s ∈ l, s.kinds ≠ [] ∧ ∀ k ∈ s.kinds, 0 ≤ k ∧ k < n) → 1 ≤ a → a ≤ M → l.foldl (costStep M L) a < M → ∀ s ∈ l, s.many = 0 → getI L (lowestL L s.kinds) < l.foldl (costStep M L) a
  | [], _, _, _, _, _, s, h, _ => by simp at h
  | s :: l, a, hs, h1, hM, hlt, t, ht, hm => by
    have hs' := fun t ht => hs t (List.mem_cons_of_mem s ht)
    have hb := hs s (by simp)
    have h2 := hb.2 _ (lowest_mem (L := L) hb.1)
    have h3 := hp _ h2.1 h2.2
    have hst : a ≤ costStep M L a s ∧ costStep M L a s ≤ M := by
      unfold costStep
      split <;> omega
    have hle := (cost_bd hp l (costStep M L a s) hs' hst.2).1
    rw [List.foldl_cons] at hlt ⊢
    rcases List.mem_cons.1 ht with rfl | ht
    · have : costStep M L a t = min (a + getI L (lowestL L t.kinds)) M := by simp [costStep, hm]
      omega
    · exact cost_part hp l _ hs' (by omega) hst.2 hlt t ht hm
section
variable {M : Int} {g : List Ru} {L L' : List Int}
theorem SzInv.pos (hM : 1 ≤ M) (h : SzInv M g L) (hp : ∀ x ∈ L, 1 ≤ x) : Pos g.length L := fun k h0 h1 => by
 have hl : k.toNat < L.length := by rw [h.1]; omega
 unfold getI
 rw [List.getD_eq_getElem?_getD, List.getElem?_eq_getElem hl]
 exact hp _ (List.getElem_mem _)
theorem leL_set {k : Nat} {x n : Int} (hk : L[k]? = some n) (hx : x ≤ n) : LeL (L.set k x) L := fun j => by
 unfold getI
 rw [List.getD_eq_getElem?_getD, List.getD_eq_getElem?_getD, List.getElem?_set]
 split
 ·rename_i h
  rw [← h, hk]
  split <;> simp
  ·exact hx
  ·rename_i h2
   exact absurd (List.getElem?_eq_some_iff.1 hk).1 h2
 ·exact Int.le_refl _
theorem SzInv.set {k : Nat} {r : Ru} {n : Int} (h : SzInv M g L) (hok : ∀ r ∈ g, KindsOk g.length r) (hr : g[k]? = some r) (hn : L[k]? = some n) (hlt : costRu M L r < n) : SzInv M g (L.set k (costRu M L r)) := by
 have hle := leL_set hn (Int.le_of_lt hlt)
 refine ⟨by simpa using h.1, fun j q hq => ?_⟩
 obtain ⟨m, h1, h2, h3⟩ := h.2 j q hq
 have hmono := costRu_mono (M := M) (hok q (List.mem_of_getElem? hq)) hle
 by_cases hj : k = j
 ·subst hj
  obtain rfl : r = q := by rw [hr] at hq; exact Option.some.inj hq
  obtain rfl : n = m := by rw [hn] at h1; exact Option.some.inj h1
  exact ⟨_, by rw [List.getElem?_set_self (List.getElem?_eq_some_iff.1 hn).1], hmono, by omega⟩
 ·exact ⟨m, by rw [List.getElem?_set_ne hj]; exact h1, by omega, h3⟩
theorem SzInv.pos_set {k : Nat} {r : Ru} (hM : 1 ≤ M) (h : SzInv M g L) (hok : ∀ r ∈ g, KindsOk g.length r) (hr : g[k]? = some r) (hp : ∀ x ∈ L, 1 ≤ x) : ∀ x ∈ L.set k (costRu M L r), 1 ≤ x := fun x hx => by
 rcases List.mem_or_eq_of_mem_set hx with h1 | rfl
 ·exact hp x h1
 ·exact (costRu_bd (h.pos hM hp) (hok r (List.mem_of_getElem? hr)) hM).1
theorem SzInv.done (h : SzInv M g L) (hd : ∀ (k : Nat) r n, g[k]? = some r → L[k]? = some n → ¬ costRu M L r < n) : IsSz M g L :=
 ⟨h.1, fun k r hr => by
  obtain ⟨n, h1, h2, _⟩ := h.2 k r hr
  have := hd k r n hr h1
  rw [h1]
  congr 1
  omega⟩
theorem SzInv.start (hM : 1 ≤ M) (hok : ∀ r ∈ g, KindsOk g.length r) : SzInv M g (List.replicate g.length M) := by
 refine ⟨by simp, fun k r hr => ?_⟩
 have hk := (List.getElem?_eq_some_iff.1 hr).1
 refine ⟨M, by simp [hk], ?_, Int.le_refl _⟩
 refine (costRu_bd (n := g.length) (fun j h0 h1 => ?_) (hok r (List.mem_of_getElem? hr)) hM).2
 unfold getI
 rw [List.getD_eq_getElem?_getD, List.getElem?_replicate, if_pos (by omega)]
 exact hM
theorem sum_set {x n : Int} : ∀ {L : List Int} {k : Nat}, L[k]? = some n → (L.set k x).sum = L.sum - n + x
  | [], _, h => by simp at h
  | a :: L, 0, h => by
    simp at h
    subst h
    simp
    omega
  | a :: L, k + 1, h => by
    have := sum_set (x := x) (k := k) (L := L) (by simpa using h)
    simp only [List.set_cons_succ, List.sum_cons, this]
    omega
theorem sum_nonneg : ∀ {L : List Int}, (∀ x ∈ L, 1 ≤ x) → (0 : Int) ≤ L.sum
  | [], _ => by simp
  | a :: L, h => by
    have h1 := h a (by simp)
    have h2 := sum_nonneg (L := L) fun x hx => h x (by simp [hx])
    simp only [List.sum_cons]
    omega
theorem sz_from (hM : 1 ≤ M) (hok : ∀ r ∈ g, KindsOk g.length r) : ∀ (t : Nat) (L : List Int), SzInv M g L → (∀ x ∈ L, 1 ≤ x) → L.sum.toNat < t → ∃ L', IsSz M g L' ∧ ∀ x ∈ L', 1 ≤ x
  | 0, _, _, _, h => absurd h (by omega)
  | t + 1, L, h, hp, ht => by
    by_cases hd : ∀ (k : Nat) r n, g[k]? = some r → L[k]? = some n → ¬ costRu M L r < n
    · exact ⟨L, h.done hd, hp⟩
    · simp only [Classical.not_forall, Classical.not_not] at hd
      obtain ⟨k, r, n, hr, hn, hlt⟩ := hd
      have hp' := h.pos_set hM hok hr hp
      refine sz_from hM hok t _ (h.set hok hr hn hlt) hp' ?_
      have h1 := sum_set (x := costRu M L r) hn
      have h2 := sum_nonneg hp'
      omega
theorem sz_exists (hM : 1 ≤ M) (hok : ∀ r ∈ g, KindsOk g.length r) : ∃ L, IsSz M g L ∧ ∀ x ∈ L, 1 ≤ x :=
 sz_from hM hok _ _ (SzInv.start hM hok) (fun x hx => by rw [(List.mem_replicate.1 hx).2]; exact hM) (Nat.lt_succ_self _)
theorem IsSz.inv (h : IsSz M g L) (hp : ∀ x ∈ L, 1 ≤ x) (hM : 1 ≤ M) (hok : ∀ r ∈ g, KindsOk g.length r) : SzInv M g L := by
 refine ⟨h.1, fun k r hr => ⟨_, h.2 k r hr, Int.le_refl _, ?_⟩⟩
 have hpos : Pos g.length L := fun k h0 h1 => by
  have hl : k.toNat < L.length := by rw [h.1]; omega
  unfold getI
  rw [List.getD_eq_getElem?_getD, List.getElem?_eq_getElem hl]
  exact hp _ (List.getElem_mem _)
 exact (costRu_bd hpos (hok r (List.mem_of_getElem? hr)) hM).2
theorem IsSz.get (h : IsSz M g L) {k : Nat} {r : Ru} (hr : g[k]? = some r) : getI L k = costRu M L r := getI_at (h.2 k r hr)
theorem IsSz.all_pos (h : IsSz M g L) (hM : 1 ≤ M) (hok : ∀ r ∈ g, KindsOk g.length r) (hp : ∀ x ∈ L, 1 ≤ x) : Pos g.length L := (h.inv hp hM hok).pos hM hp
theorem cost_le_of {L L' : List Int} : ∀ (l : List Sl) (a b : Int), a ≤ b → (∀ s ∈ l, s.many = 0 → getI L' (lowestL L' s.kinds) ≤ getI L (lowestL L s.kinds)) → l.foldl (costStep M L') a ≤ l.foldl (costStep M L) b
  | [], _, _, h, _ => h
  | s :: l, a, b, hab, h => by
    refine cost_le_of l _ _ ?_ fun t ht => h t (by simp [ht])
    have := h s (by simp)
    unfold costStep
    split
    · have := this (by assumption)
      omega
    · exact hab
theorem sz_le (hM : 1 ≤ M) (hok : ∀ r ∈ g, KindsOk g.length r) (h : IsSz M g L) (h' : IsSz M g L') (hp : ∀ x ∈ L, 1 ≤ x) (hp' : ∀ x ∈ L', 1 ≤ x) :
    ∀ (n : Nat) (k : Nat), k < g.length → (getI L k).toNat = n → getI L' k ≤ getI L k := by
  intro n
  induction n using Nat.strongRecOn with
  | _ n ih =>
    intro k hk hn
    have hr := List.getElem?_eq_getElem hk
    have h1 := h.get hr
    have h2 := h'.get hr
    have hkr := hok _ (List.getElem_mem hk)
    have hb := costRu_bd (M := M) (h.all_pos hM hok hp) hkr hM
    have hb' := costRu_bd (M := M) (h'.all_pos hM hok hp') hkr hM
    by_cases hlt : getI L k < M
    · rw [h1, h2]
      refine cost_le_of _ _ _ (Int.le_refl _) fun s hs hm => ?_
      have h3 := cost_part (h.all_pos hM hok hp) _ 1 hkr (by omega) hM (by rw [← costRu, ← h1]; exact hlt) s hs hm
      rw [← costRu, ← h1] at h3
      have hmem := lowest_mem (L := L) (hkr s hs).1
      have h4 := (hkr s hs).2 _ hmem
      have h5 := h.all_pos hM hok hp _ h4.1 h4.2
      obtain ⟨j, hj⟩ : ∃ j : Nat, lowestL L s.kinds = j := ⟨(lowestL L s.kinds).toNat, by omega⟩
      rw [hj] at h3 h4 h5
      have h6 := ih (getI L j).toNat (by omega) j (by omega) rfl
      refine Int.le_trans (lowest_le hmem) ?_
      rw [hj]
      exact h6
    · omega
theorem ext_getI (hl : L.length = L'.length) (h : ∀ k : Nat, k < L.length → getI L k = getI L' k) : L = L' := by
 refine List.ext_getElem? fun k => ?_
 by_cases hk : k < L.length
 ·have := h k hk
  rw [List.getElem?_eq_getElem hk, List.getElem?_eq_getElem (by omega)] at *
  unfold getI at this
  simp only [List.getD_eq_getElem?_getD, Int.toNat_natCast] at this
  rw [List.getElem?_eq_getElem hk, List.getElem?_eq_getElem (by omega)] at this
  simpa using this
 ·rw [List.getElem?_eq_none (by omega), List.getElem?_eq_none (by omega)]
theorem sz_uniq (hM : 1 ≤ M) (hok : ∀ r ∈ g, KindsOk g.length r) (h : IsSz M g L) (h' : IsSz M g L') (hp : ∀ x ∈ L, 1 ≤ x) (hp' : ∀ x ∈ L', 1 ≤ x) : L = L' :=
 ext_getI (h.1.trans h'.1.symm) fun k hk => Int.le_antisymm (sz_le hM hok h' h hp' hp _ k (by have := h.1; omega) rfl) (sz_le hM hok h h' hp hp' _ k (by have := h.1; omega) rfl)
end
end

/- Rows of trees in the making. -/
section
open Go.RowKit
abbrev RowH := List T × Option Addr × Nat
abbrev TreeH := T × Option Addr × Nat
def encRow (p : RowH) : Value := .slice p.2.1 p.1.length p.2.2
def encT (p : TreeH) : List Value := [.int .i64 p.1.kind, .string p.1.text, .slice p.2.1 p.1.slots.length p.2.2]
def Bad (base : Nat) (A : Option Addr) : Nat → Prop := fun k => k < base ∨ ∃ a, A = some a ∧ a.block = k
structure GR (n base : Nat) (w : World) (A : Option Addr) (c : Nat) (L : List RowH) : Prop where
 own : w.ownsRow base 59 1 (.slice A L.length c) L.length (L.map encRow)
 rows : ∀ p ∈ L, RowB (Bad base A) (fun B d x => RH (Bad base A) n w B d x) w p.2.1 p.2.2 p.1
structure GT (n base : Nat) (w : World) (A : Option Addr) (c : Nat) (G : List TreeH) : Prop where
 own : w.ownsRow base 27 3 (.slice A G.length c) G.length (G.flatMap encT)
 trees : ∀ p ∈ G, RH (Bad base A) n w p.2.1 p.2.2 p.1
section
variable {S S' : Nat → Prop} {R R' : Option Addr → Nat → T → Prop} {w w' : World} {A A' : Option Addr} {c c' n m base : Nat} {r : List T} {l : List (List T)} {t : T} {v : Value}
abbrev RowAt (S : Nat → Prop) (n : Nat) (w : World) (A : Option Addr) (c : Nat) (r : List T) : Prop := RowB S (fun A c x => RH S n w A c x) w A c r
theorem RowAt.imp (h : RowAt S n w A c r) (hS : ∀ k, k < w.heap.size → ¬ S k → ¬ S' k) (hc : ∀ p u, ¬ S p.block → w.cell? p = some u → w'.cell? p = some u) (hl : n ≤ m) : RowAt S' m w' A c r :=
 RowB.imp h hS (fun _ _ _ _ hr => RH.imp hS hc hl hr) hc
theorem RowAt.fr {Z : List Nat} (h : RowAt S n w A c r) (hf : Fr Z w w') (hS : ∀ k ∈ Z, S k) : RowAt S n w' A c r :=
 RowAt.imp h (fun _ _ h => h) (fun p u hp h1 => hf.cell h1 fun hm => hp (hS _ hm)) (Nat.le_refl _)
theorem RowAt.sub (h : RowAt S n w A c r) (hS : ∀ k, k < w.heap.size → S' k → S k) : RowAt S' n w A c r := RowAt.imp h (fun k hk h hm => h (hS k hk hm)) (fun _ _ _ h => h) (Nat.le_refl _)
theorem own_cell1 {g i n cap : Nat} {e : TypeId} {xs : List Value} {u : Value} (h : w.ownsRow base e 1 (.slice (some ⟨g, 0, none⟩) n cap) n xs) (hu : xs[i]? = some u) : w.cell? ⟨g, i, none⟩ = some u := by
 have hi := (List.getElem?_eq_some_iff.1 hu).1
 have hl := h.1
 rcases h.2 with ⟨he, _⟩ | ⟨g', cap', cur, he, _, hh, _, _, hsz, htk⟩
 ·simp at he
 ·injection he with e1 e2 e3
  injection e1 with e1
  injection e1 with e1
  subst e1 e3
  have : cur[i]? = some u := by
   rw [← htk, List.getElem?_take] at hu
   split at hu
   ·simpa using hu
   ·cases hu
  rw [cell_of_row w g i cur e (0, 0) hh, this]
theorem own_cell3 {g i n cap : Nat} {e : TypeId} {xs : List Value} {u : Value} (h : w.ownsRow base e 3 (.slice (some ⟨g, 0, none⟩) n cap) n xs) (hu : xs[i]? = some u) : w.cell? ⟨g, i, none⟩ = some u := by
 rcases h.2 with ⟨he, _⟩ | ⟨g', cap', cur, he, _, hh, _, _, hsz, htk⟩
 ·simp at he
 ·injection he with e1 e2 e3
  injection e1 with e1
  injection e1 with e1
  subst e1 e3
  have : cur[i]? = some u := by
   rw [← htk, List.getElem?_take] at hu
   split at hu
   ·simpa using hu
   ·cases hu
  rw [cell_of_row w g i cur e (0, 0) hh, this]
theorem own_hdr {e : TypeId} {size n cap : Nat} {xs : List Value} (h : w.ownsRow base e size (.slice A n cap) n xs) : n ≤ cap ∧ cap ≤ maxLen ∧ (0 < n → ∃ g, A = some ⟨g, 0, none⟩ ∧ base ≤ g ∧ g < w.heap.size) := by
 refine ⟨?_, ?_, own_some h⟩
 ·rcases h.2 with ⟨he, h0⟩ | ⟨g, cap', cur, he, _, _, h1, _⟩
  ·injection he with e1 e2 e3; omega
  ·injection he with e1 e2 e3; omega
 ·rcases h.2 with ⟨he, h0⟩ | ⟨g, cap', cur, he, _, _, h1, h2, _⟩
  ·injection he with e1 e2 e3; unfold maxLen; omega
  ·injection he with e1 e2 e3; omega
theorem GR.rowsB {L : List RowH} (h : GR n base w A c L) : RowsB (fun k => k < base) (fun A c x => RH (fun k => k < base) n w A c x) w A c (L.map (·.1)) := by
 obtain ⟨h1, h2, h3⟩ := own_hdr h.own
 refine ⟨by simpa using h1, h2, fun h0 => ?_⟩
 rw [List.length_map] at h0
 obtain ⟨g, rfl, hb, hg⟩ := h3 h0
 refine ⟨g, 0, rfl, by omega, fun i r hi => ?_⟩
 rw [List.getElem?_map, Option.map_eq_some_iff] at hi
 obtain ⟨p, hp, rfl⟩ := hi
 have hc := own_cell1 h.own (i := i) (u := encRow p) (by simp [hp])
 rw [Nat.zero_add]
 exact ⟨p.2.1, p.2.2, hc, RowAt.sub (h.rows p (List.mem_of_getElem? hp)) fun k _ hk => .inl hk⟩
theorem encT_at : ∀ (G : List TreeH) (k : Nat) (p : TreeH), G[k]? = some p → (G.flatMap encT)[k * 3]? = some (.int .i64 p.1.kind) ∧ (G.flatMap encT)[k * 3 + 1]? = some (.string p.1.text) ∧ (G.flatMap encT)[k * 3 + 2]? = some (.slice p.2.1 p.1.slots.length p.2.2)
  | [], _, _, h => by simp at h
  | q :: G, 0, p, h => by
    have h : q = p := by simpa using h
    subst h
    exact ⟨rfl, rfl, rfl⟩
  | q :: G, k + 1, p, h => by
    have := encT_at G k p (by simpa using h)
    rw [show (k + 1) * 3 = k * 3 + 3 by omega]
    exact this
theorem GT.rowAt {G : List TreeH} (h : GT n base w A c G) : RowAt (fun k => k < base) n w A c (G.map (·.1)) := by
 obtain ⟨h1, h2, h3⟩ := own_hdr h.own
 refine ⟨by simpa using h1, h2, fun h0 => ?_⟩
 rw [List.length_map] at h0
 obtain ⟨g, rfl, hb, hg⟩ := h3 h0
 refine ⟨g, 0, rfl, by omega, fun k x hk => ?_⟩
 rw [List.getElem?_map, Option.map_eq_some_iff] at hk
 obtain ⟨p, hp, rfl⟩ := hk
 obtain ⟨e1, e2, e3⟩ := encT_at G k p hp
 rw [Nat.zero_add]
 exact ⟨own_cell3 h.own e1, own_cell3 h.own e2, p.2.1, p.2.2, own_cell3 h.own e3, RH.sub (h.trees p (List.mem_of_getElem? hp)) fun k _ hk => .inl hk⟩
theorem own_block {e : TypeId} {size n cap : Nat} {xs : List Value} (h : w.ownsRow base e size (.slice A n cap) n xs) {a : Addr} (ha : A = some a) : base ≤ a.block ∧ a.block < w.heap.size := by
 subst ha
 exact h.lt a.block rfl
theorem GR.fr {Z : List Nat} {L : List RowH} (h : GR n base w A c L) (hf : Fr Z w w') (hZ : ∀ k ∈ Z, k < base) : GR n base w' A c L :=
 ⟨own_fr h.own hf fun k hk hm => by
  rcases A with _ | a
  ·cases hk
  ·have := own_block h.own rfl
   have hk : a.block = k := by simpa [Value.ownBlock] using hk
   have := hZ k hm
   omega, fun p hp => RowAt.fr (h.rows p hp) hf fun k hk => .inl (hZ k hk)⟩
theorem GR.fr0 {L : List RowH} (h : GR n base w A c L) (hf : Fr [] w w') : GR n base w' A c L := h.fr hf (by simp)
theorem GT.fr {Z : List Nat} {G : List TreeH} (h : GT n base w A c G) (hf : Fr Z w w') (hZ : ∀ k ∈ Z, k < base) : GT n base w' A c G :=
 ⟨own_fr h.own hf fun k hk hm => by
  rcases A with _ | a
  ·cases hk
  ·have := own_block h.own rfl
   have hk : a.block = k := by simpa [Value.ownBlock] using hk
   have := hZ k hm
   omega, fun p hp => RH.fr (h.trees p hp) hf fun k hk => .inl (hZ k hk)⟩
theorem GT.fr0 {G : List TreeH} (h : GT n base w A c G) (hf : Fr [] w w') : GT n base w' A c G := h.fr hf (by simp)
theorem GR.nil_ (n base : Nat) (w : World) : GR n base w none 0 [] := ⟨World.ownsRow_nil w base _ 1, by simp⟩
theorem GR.ne {L : List RowH} (h : GR n base w A c L) {g k : Nat} (hg : g < base) : some g ≠ (Value.slice A k c).ownBlock := by
 rcases A with _ | a
 ·simp [Value.ownBlock]
 ·have := own_block h.own rfl
  intro e
  have e : g = a.block := by simpa [Value.ownBlock] using e
  omega
theorem GT.ne {L : List TreeH} (h : GT n base w A c L) {g k : Nat} (hg : g < base) : some g ≠ (Value.slice A k c).ownBlock := by
 rcases A with _ | a
 ·simp [Value.ownBlock]
 ·have := own_block h.own rfl
  intro e
  have e : g = a.block := by simpa [Value.ownBlock] using e
  omega
theorem GR.bad_lt {L : List RowH} (h : GR n base w A c L) (hb : base ≤ w.heap.size) : ∀ k, Bad base A k → k < w.heap.size := fun k hk => by
 rcases hk with hk | ⟨a, rfl, rfl⟩
 ·omega
 ·exact (own_block h.own rfl).2
theorem GT.bad_lt {L : List TreeH} (h : GT n base w A c L) (hb : base ≤ w.heap.size) : ∀ k, Bad base A k → k < w.heap.size := fun k hk => by
 rcases hk with hk | ⟨a, rfl, rfl⟩
 ·omega
 ·exact (own_block h.own rfl).2
theorem GT.nil_ (n base : Nat) (w : World) : GT n base w none 0 [] := ⟨World.ownsRow_nil w base _ 3, by simp⟩
theorem grown_cell {k : Nat} (hg : w.grownBy w' (Value.slice A k c).ownBlock) {p : Addr} {u : Value} (hp : ¬ Bad base A p.block) (hu : w.cell? p = some u) : w'.cell? p = some u := by
 have hb := World.block_lt_of_cell? w p hu
 refine (World.cell?_of_block (hg.block _ hb ?_)).trans hu
 rcases A with _ | a
 ·simp [Value.ownBlock]
 ·intro e
  have : p.block = a.block := by simpa [Value.ownBlock] using e
  exact hp (.inr ⟨a, rfl, this.symm⟩)
theorem grown_bad {k m : Nat} (hat : (Value.slice A' m c').ownBlock = (Value.slice A k c).ownBlock ∨ (Value.slice A' m c').ownBlock = some w.heap.size) : ∀ j, j < w.heap.size → ¬ Bad base A j → ¬ Bad base A' j := by
 intro j hj hn hb
 rcases hb with hb | ⟨a', rfl, rfl⟩
 ·exact hn (.inl hb)
 ·rcases hat with hat | hat
  ·rcases A with _ | a
   ·simp [Value.ownBlock] at hat
   ·exact hn (.inr ⟨a, rfl, by simpa [Value.ownBlock] using hat.symm⟩)
  ·simp [Value.ownBlock] at hat
   omega
theorem GR.snoc {L : List RowH} {p : RowH} {k : Nat} (h : GR n base w A c L) (hp : RowAt (Bad base A) n w p.2.1 p.2.2 p.1) (hk : k = L.length) (hg : w.grownBy w' (Value.slice A k c).ownBlock)
  (hat : (Value.slice A' (k + 1) c').ownBlock = (Value.slice A k c).ownBlock ∨ (Value.slice A' (k + 1) c').ownBlock = some w.heap.size)
  (ho : w'.ownsRow base 59 1 (.slice A' (k + 1) c') (k + 1) (L.map encRow ++ [encRow p])) : GR n base w' A' c' (L ++ [p]) := by
 subst hk
 refine ⟨by simpa using ho, fun q hq => ?_⟩
 have hq : RowAt (Bad base A) n w q.2.1 q.2.2 q.1 := by
  rcases List.mem_append.1 hq with hq | hq
  ·exact h.rows q hq
  ·obtain rfl : q = p := by simpa using hq
   exact hp
 exact RowAt.imp hq (grown_bad hat) (fun p u hp hu => grown_cell hg hp hu) (Nat.le_refl _)
theorem GT.app {G G2 : List TreeH} {k m : Nat} (h : GT n base w A c G) (hp : ∀ p ∈ G2, RH (Bad base A) n w p.2.1 p.2.2 p.1) (hk : k = G.length) (hm : m = G2.length) (hg : w.grownBy w' (Value.slice A k c).ownBlock)
  (hat : (Value.slice A' (k + m) c').ownBlock = (Value.slice A k c).ownBlock ∨ (Value.slice A' (k + m) c').ownBlock = some w.heap.size)
  (ho : w'.ownsRow base 27 3 (.slice A' (k + m) c') (k + m) (G.flatMap encT ++ G2.flatMap encT)) : GT n base w' A' c' (G ++ G2) := by
 subst hk hm
 refine ⟨by simpa using ho, fun q hq => ?_⟩
 have hq : RH (Bad base A) n w q.2.1 q.2.2 q.1 := by
  rcases List.mem_append.1 hq with hq | hq
  ·exact h.trees q hq
  ·exact hp q hq
 exact RH.imp (grown_bad hat) (fun p u hp hu => grown_cell hg hp hu) (Nat.le_refl _) hq
theorem RowAt.one {e : TypeId} {x : T} (hS : ¬ S w.heap.size) (h : RH S n w A c x) : RowAt S n (w.alloc (.cells #[.int .i64 x.kind, .string x.text, .slice A x.slots.length c] e)) (some ⟨w.heap.size, 0, none⟩) 1 [x] :=
  ⟨Nat.le_refl _, by unfold maxLen; omega, fun _ => ⟨_, 0, rfl, hS, fun k y hy => by
    match k, hy with
    | 0, hy =>
      have hy : x = y := by simpa using hy
      subst hy
      exact ⟨by simp, by simp, A, c, by simp, h.fr0 ((Fr.refl _ _).alloc _)⟩⟩⟩
theorem RowAt.nil_ : RowAt S n w none 0 [] := ⟨Nat.le_refl _, by unfold maxLen; omega, by simp⟩
theorem GR.made {k : Nat} {g : Nat} (h : w.ownsRow base 59 1 (.slice (some ⟨g, 0, none⟩) k k) k (List.replicate k (.slice none 0 0))) : GR n base w (some ⟨g, 0, none⟩) k (List.replicate k (([], none, 0) : RowH)) := by
 refine ⟨?_, fun p hp => ?_⟩
 ·rw [List.map_replicate, List.length_replicate]
  exact h
 ·rw [(List.mem_replicate.1 hp).2]
  exact RowAt.nil_
theorem GR.blk {L : List RowH} {g k : Nat} (h : GR n base w (some ⟨g, 0, none⟩) k L) (hk : L.length = k) (h0 : 0 < k) : Blk w g 59 (L.map encRow).toArray := by
 subst hk
 exact own_blk h.own h0
theorem GR.set_ {L : List RowH} {g k i : Nat} {p : RowH} (h : GR n base w (some ⟨g, 0, none⟩) k L) (hk : L.length = k) (h0 : i < k) (hp : RowAt (Bad base (some ⟨g, 0, none⟩)) n w p.2.1 p.2.2 p.1) : GR n base (w.setCell ⟨g, i, none⟩ (encRow p)) (some ⟨g, 0, none⟩) k (L.set i p) := by
 have hb := h.blk hk (by omega)
 have hbase := own_block h.own rfl
 obtain ⟨h1, h2, _⟩ := own_hdr h.own
 have hset : (L.map encRow).toArray.setIfInBounds i (encRow p) = ((L.set i p).map encRow).toArray := by rw [List.map_set]; simp
 have hb2 := hb.set_ i (encRow p)
 rw [hset] at hb2
 refine ⟨⟨by simp, .inr ⟨g, k, _, by rw [List.length_set], hbase.1, hb2, by rw [List.length_set]; exact h1, h2, by simp [hk], by simp; exact List.take_of_length_le (by simp)⟩⟩, fun q hq => ?_⟩
 have hq : RowAt (Bad base (some ⟨g, 0, none⟩)) n w q.2.1 q.2.2 q.1 := by
  rcases List.mem_or_eq_of_mem_set hq with hq | rfl
  ·exact h.rows q hq
  ·exact hp
 refine RowAt.fr hq (Z := [g]) ((Fr.refl _ _).setCell (p := ⟨g, i, none⟩) (.inl (by simp)) _) fun k hk => ?_
 obtain rfl : k = g := by simpa using hk
 exact .inr ⟨_, rfl, rfl⟩
end
end

/- The least tree of a kind: plain. -/
section
open Go.RowKit
abbrev emptyS : ByteArray := ⟨#[]⟩
def slotsOf (g : List Ru) (k : Int) : List Sl := ((g[k.toNat]?).map Ru.slots).getD []
def leastF (g : List Ru) (L : List Int) : Nat → Int → T
 | 0, k => .mk k emptyS []
 | m + 1, k => .mk k emptyS ((slotsOf g k).map fun s => if s.many = 0 then [leastF g L m (lowestL L s.kinds)] else [])
def leastRow (g : List Ru) (L : List Int) (m : Nat) (s : Sl) : List T := if s.many = 0 then [leastF g L m (lowestL L s.kinds)] else []
theorem slotsOf_at {g : List Ru} {k : Nat} {r : Ru} (h : g[k]? = some r) : slotsOf g k = r.slots := by simp [slotsOf, h]
theorem leastF_kind (g : List Ru) (L : List Int) (m : Nat) (k : Int) : (leastF g L m k).kind = k := by cases m <;> rfl
theorem leastF_text (g : List Ru) (L : List Int) (m : Nat) (k : Int) : (leastF g L m k).text = emptyS := by cases m <;> rfl
theorem leastF_slots {g : List Ru} {L : List Int} {m k : Nat} {r : Ru} (h : g[k]? = some r) : (leastF g L (m + 1) k).slots = r.slots.map (leastRow g L m) := by
 show (slotsOf g k).map _ = _
 rw [slotsOf_at h]
 rfl
structure LOk (g : List Ru) (L : List Int) : Prop where
 ok : ∀ r ∈ g, KindsOk g.length r
 sz : IsSz MUCH g L
 pos : ∀ x ∈ L, 1 ≤ x
 few : ∀ r ∈ g, r.slots.length ≤ 1000
theorem LOk.low {g : List Ru} {L : List Int} (h : LOk g L) {k : Nat} {r : Ru} {s : Sl} (hr : g[k]? = some r) (hs : s ∈ r.slots) : ∃ j : Nat, lowestL L s.kinds = j ∧ j < g.length := by
 have h1 := h.ok r (List.mem_of_getElem? hr) s hs
 have h2 := h1.2 _ (lowest_mem (L := L) h1.1)
 exact ⟨(lowestL L s.kinds).toNat, by omega, by omega⟩
theorem LOk.less {g : List Ru} {L : List Int} (h : LOk g L) {k : Nat} {r : Ru} {s : Sl} (hr : g[k]? = some r) (hs : s ∈ r.slots) (hm : s.many = 0) (hk : getI L k < MUCH) : getI L (lowestL L s.kinds) < getI L k := by
 rw [h.sz.get hr] at hk ⊢
 exact cost_part (h.sz.all_pos (by decide) h.ok h.pos) _ 1 (h.ok r (List.mem_of_getElem? hr)) (by omega) (by decide) hk s hs hm
end

/- The first error of a tree's nodes: plain. -/
section
open Go.RowKit
def ruleAt (g : List Ru) (k : Int) : Option Ru := if 0 ≤ k then g[k.toNat]? else none
def errFold (e d : Int) : Int := if e = 0 then d else e
def badRow (s : Sl) (r : List T) : Bool := (s.many == 0 && (r.length : Int) != 1) || (s.many == 1 && decide ((1 : Int) < r.length)) || r.any fun x => !decide (x.kind ∈ s.kinds)
def badRows (S : List Sl) (R : List (List T)) : Bool := (S.zip R).any fun p => badRow p.1 p.2
def nodeF (g : List Ru) (t : T) (rows : List (List Int)) : Int :=
 match ruleAt g t.kind with
 | none => 1
 | some r => if 16 < t.text.size then 3 else if ((!t.text.toList.isEmpty) && !r.leaf) || (t.slots.length : Int) != r.slots.length then 1 else if badRows r.slots t.slots then 1 else fold2 errFold 0 rows
def nodeErr (g : List Ru) : T → Int := T.para (nodeF g)
abbrev nodeX (g : List Ru) (e : Int) (x : T) : Int := errFold e (nodeErr g x)
theorem nodeErr_eq (g : List Ru) (t : T) : nodeErr g t = match ruleAt g t.kind with
 | none => 1
 | some r => if 16 < t.text.size then 3 else if ((!t.text.toList.isEmpty) && !r.leaf) || (t.slots.length : Int) != r.slots.length then 1 else if badRows r.slots t.slots then 1 else fold2 (nodeX g) 0 t.slots := by
 conv => lhs; unfold nodeErr
 rw [T.para_eq]
 unfold nodeF
 split
 ·rfl
 ·rw [fold2_map]
  rfl
section
variable {g : List Ru} {t : T} {r : Ru}
theorem node_none (h : ruleAt g t.kind = none) : nodeErr g t = 1 := by rw [nodeErr_eq, h]
theorem node_long (h : ruleAt g t.kind = some r) (h1 : 16 < t.text.size) : nodeErr g t = 3 := by rw [nodeErr_eq, h]; exact if_pos h1
theorem node_leaf (h : ruleAt g t.kind = some r) (h1 : ¬ 16 < t.text.size) (h2 : (((!t.text.toList.isEmpty) && !r.leaf) || (t.slots.length : Int) != r.slots.length) = true) : nodeErr g t = 1 := by
 rw [nodeErr_eq, h]
 exact (if_neg h1).trans (if_pos h2)
theorem node_bad (h : ruleAt g t.kind = some r) (h1 : ¬ 16 < t.text.size) (h2 : (((!t.text.toList.isEmpty) && !r.leaf) || (t.slots.length : Int) != r.slots.length) = false) (h3 : badRows r.slots t.slots = true) : nodeErr g t = 1 := by
 rw [nodeErr_eq, h]
 exact (if_neg h1).trans ((if_neg (by rw [h2]; simp)).trans (if_pos h3))
theorem node_on (h : ruleAt g t.kind = some r) (h1 : ¬ 16 < t.text.size) (h2 : (((!t.text.toList.isEmpty) && !r.leaf) || (t.slots.length : Int) != r.slots.length) = false) (h3 : badRows r.slots t.slots = false) : nodeErr g t = fold2 (nodeX g) 0 t.slots := by
 rw [nodeErr_eq, h]
 exact (if_neg h1).trans ((if_neg (by rw [h2]; simp)).trans (if_neg (by rw [h3]; simp)))
theorem zip_at {S : List Sl} {R : List (List T)} {i : Nat} {s : Sl} {q : List T} (hs : Hid (S[i]? = some s)) (hq : Hid (R[i]? = some q)) : (S.zip R)[i]? = some (s, q) := by
 rw [List.getElem?_zip_eq_some]
 exact ⟨hs.out, hq.out⟩
theorem bad_yes {S : List Sl} {R : List (List T)} {i : Nat} {s : Sl} {q : List T} (hs : Hid (S[i]? = some s)) (hq : Hid (R[i]? = some q)) (h : badRow s q = true) : badRows S R = true :=
 List.any_eq_true.2 ⟨(s, q), List.mem_of_getElem? (zip_at hs hq), h⟩
def FineTo (S : List Sl) (R : List (List T)) (i : Nat) : Prop := ((S.zip R).take i).any (fun p => badRow p.1 p.2) = false
theorem FineTo.start (S : List Sl) (R : List (List T)) : FineTo S R 0 := by simp [FineTo]
theorem FineTo.next {S : List Sl} {R : List (List T)} {i : Nat} {s : Sl} {q : List T} (h : FineTo S R i) (hs : Hid (S[i]? = some s)) (hq : Hid (R[i]? = some q)) (hb : badRow s q = false) : FineTo S R (i + 1) := by
 unfold FineTo at *
 rw [List.take_add_one, zip_at hs hq, List.any_append, h]
 simpa using hb
theorem FineTo.done {S : List Sl} {R : List (List T)} {i : Nat} (h : FineTo S R i) (hi : R.length ≤ i) : badRows S R = false := by
 unfold FineTo at h
 rw [List.take_of_length_le (by rw [List.length_zip]; omega)] at h
 exact h
theorem row_bad1 {s : Sl} {q : List T} (h : s.many = 0) (h1 : (q.length : Int) ≠ 1) : badRow s q = true := by simp [badRow, h, h1]
theorem row_bad2 {s : Sl} {q : List T} (h : s.many = 1) (h1 : 1 < q.length) : badRow s q = true := by simp [badRow, h]; exact .inl (by omega)
theorem row_bad3 {s : Sl} {q : List T} {m : Nat} {x : T} (hx : Hid (q[m]? = some x)) (h : x.kind ∉ s.kinds) : badRow s q = true := by
 have : (q.any fun x => !decide (x.kind ∈ s.kinds)) = true := List.any_eq_true.2 ⟨x, List.mem_of_getElem? hx.out, by simp [h]⟩
 simp [badRow, this]
theorem row_fine {s : Sl} {q : List T} (h1 : s.many = 0 → q.length = 1) (h2 : s.many = 1 → q.length ≤ 1) (h3 : ∀ x ∈ q, x.kind ∈ s.kinds) : badRow s q = false := by
 have : (q.any fun x => !decide (x.kind ∈ s.kinds)) = false := List.any_eq_false.2 fun x hx => by simp [h3 x hx]
 unfold badRow
 rw [this]
 simp
 refine ⟨fun h => by rw [h1 h]; rfl, fun h => by have := h2 h; omega⟩
theorem kinds_next {ks : List Int} {q : List T} {m : Nat} {x : T} (h : ∀ y ∈ q.take m, y.kind ∈ ks) (hx : Hid (q[m]? = some x)) (hk : x.kind ∈ ks) : ∀ y ∈ q.take (m + 1), y.kind ∈ ks := fun y hy => by
 rw [List.take_add_one, hx.out] at hy
 rcases List.mem_append.1 hy with hy | hy
 ·exact h y hy
 ·obtain rfl : y = x := by simpa using hy
  exact hk
theorem err_stop_row : ∀ (r : List T) (e : Int), e ≠ 0 → r.foldl (nodeX g) e = e
  | [], _, _ => rfl
  | x :: r, e, h => by
    rw [List.foldl_cons, show nodeX g e x = e by simp [nodeX, errFold, h]]
    exact err_stop_row r e h
theorem err_stop : ∀ (L : List (List T)) (e : Int), e ≠ 0 → fold2 (nodeX g) e L = e
  | [], _, _ => rfl
  | r :: L, e, h => by
    show fold2 (nodeX g) (r.foldl (nodeX g) e) L = e
    rw [err_stop_row r e h]
    exact err_stop L e h
theorem err_cut {L : List (List T)} {i m : Nat} {q : List T} {x : T} {b : Int} (hr : Hid (L[i]? = some q)) (hx : Hid (q[m]? = some x)) (h0 : (q.take m).foldl (nodeX g) (fold2 (nodeX g) b (L.take i)) = 0) (h : nodeErr g x ≠ 0) : fold2 (nodeX g) b L = nodeErr g x := by
 have h1 : q.foldl (nodeX g) (fold2 (nodeX g) b (L.take i)) = nodeErr g x := by
  conv => lhs; rw [← List.take_append_drop (m + 1) q, List.foldl_append]
  rw [fold_take hx, h0]
  exact err_stop_row _ _ h
 conv => lhs; rw [← List.take_append_drop (i + 1) L]
 unfold fold2
 rw [List.foldl_append]
 show fold2 (nodeX g) (fold2 (nodeX g) b (L.take (i + 1))) (L.drop (i + 1)) = _
 rw [fold2_take hr, h1]
 exact err_stop _ _ h
theorem err_zero {q : List T} {m : Nat} {x : T} {b : Int} (hx : Hid (q[m]? = some x)) (h0 : (q.take m).foldl (nodeX g) b = 0) (h : nodeErr g x = 0) : (q.take (m + 1)).foldl (nodeX g) b = 0 := by
 rw [fold_take hx, h0]
 simp [nodeX, errFold, h]
theorem ruleAt_neg (h : t.kind < 0 ∨ (g.length : Int) ≤ t.kind) : ruleAt g t.kind = none := by
 unfold ruleAt
 split
 ·exact List.getElem?_eq_none (by omega)
 ·rfl
theorem ruleAt_in {k : Nat} (hk : t.kind = k) (h : Hid (g[k]? = some r)) : ruleAt g t.kind = some r := by
 unfold ruleAt
 rw [hk, if_pos (by omega)]
 exact h.out
end
end

/- append of cells onto a slice of the call's own, whatever the element's size. -/
section
open Go.RowKit
def Cells (w : World) (A : Option Addr) (ys : List Value) : Prop := 0 < ys.length → ∃ b off, A = some ⟨b, off, none⟩ ∧ ∀ j u, ys[j]? = some u → w.cell? ⟨b, off + j, none⟩ = some u
theorem Cells.fr {S : List Nat} {w w' : World} {A : Option Addr} {ys : List Value} (h : Cells w A ys) (hf : Fr S w w') (hn : ∀ a, A = some a → a.block ∉ S) : Cells w' A ys := fun h0 => by
 obtain ⟨b, off, rfl, hc⟩ := h h0
 exact ⟨b, off, rfl, fun j u hu => hf.cell (hc j u hu) (show b ∉ S from hn ⟨b, off, none⟩ rfl)⟩
theorem Cells.fr0 {w w' : World} {A : Option Addr} {ys : List Value} (h : Cells w A ys) (hf : Fr [] w w') : Cells w' A ys := h.fr hf (by simp)
theorem Cells.of_own {w : World} {base sz n c : Nat} {e : TypeId} {A : Option Addr} {ys : List Value} (h : w.ownsRow base e sz (.slice A n c) n ys) : Cells w A ys := fun h0 => by
 have hl := h.1
 rcases h.2 with ⟨he, hz⟩ | ⟨g, cap, cur, he, _, hh, _, _, hsz, htk⟩
 ·subst hz
  simp at hl
  subst hl
  simp at h0
 ·injection he with e1 e2 e3
  subst e1 e3
  refine ⟨g, 0, rfl, fun j u hu => ?_⟩
  have : cur[j]? = some u := by
   rw [← htk, List.getElem?_take] at hu
   split at hu
   ·simpa using hu
   ·cases hu
  rw [Nat.zero_add, cell_of_row w g j cur e (0, 0) hh, this]
section
variable {P : Program} {w : World}
theorem run_append_g {t ty e : TypeId} {z : Value} {bytes sz base n : Nat} (E : Elem P t e z sz bytes) {v : Value} {xs : List Value} (hown : w.ownsRow base e sz v n xs)
  {A : Option Addr} {m c : Nat} {ys : List Value} (hr : Cells w A ys) (hlen : ys.length = m * sz) (hmc : m ≤ c) (h1 : ∀ u ∈ ys, u.oneCell' = true)
  (hb : (n + m) * bytes ≤ 140737488355328) (hbase : base ≤ w.heap.size) :
  ∃ A' c' w', (Builtin.append_ #[t, t] ty #[v, .slice A m c]).run P w = .ok (.slice A' (n + m) c') w' ∧ w'.ownsRow base e sz (.slice A' (n + m) c') (n + m) (xs ++ ys) ∧
   w.grownBy w' v.ownBlock ∧ ((Value.slice A' (n + m) c').ownBlock = v.ownBlock ∨ (Value.slice A' (n + m) c').ownBlock = some w.heap.size) := by
 obtain ⟨i, hi, hz, hsz, hby⟩ := info_parts E.inf
 rcases Nat.eq_zero_or_pos m with h0 | h0
 ·subst h0
  have hn : ys = [] := List.eq_nil_of_length_eq_zero (by omega)
  subst hn
  obtain ⟨A', c', rfl⟩ := own_form hown
  refine ⟨A', c', w, ?_, by simpa using hown, World.grownBy.refl w _, .inl rfl⟩
  rcases A with _ | ad
  ·rcases hown.2 with ⟨he, hz0⟩ | ⟨g, cap, cur, he, _, _, hnc, _⟩
   ·injection he with e1 e2 e3
    subst e1 e3
    simp [Builtin.append_, run_underlying E.und, sizeOf, typeInfo, hi, Builtin.lenOf, Builtin.firstCells, hz0]
   ·injection he with e1 e2 e3
    subst e1 e3
    simp [Builtin.append_, run_underlying E.und, sizeOf, typeInfo, hi, Builtin.lenOf, Builtin.firstCells, hnc, storeCells]
  ·rcases hown.2 with ⟨he, hz0⟩ | ⟨g, cap, cur, he, _, _, hnc, _⟩
   ·injection he with e1 e2 e3
    subst e1 e3
    simp [Builtin.append_, run_underlying E.und, sizeOf, typeInfo, hi, Builtin.lenOf, Builtin.firstCells, hz0, loadCells, loadCellsFrom]
   ·injection he with e1 e2 e3
    subst e1 e3
    simp [Builtin.append_, run_underlying E.und, sizeOf, typeInfo, hi, Builtin.lenOf, Builtin.firstCells, hnc, storeCells, loadCells, loadCellsFrom]
 ·have hpos : 0 < ys.length := by rw [hlen]; exact Nat.mul_pos h0 E.pos
  obtain ⟨b, off, rfl, hc⟩ := hr hpos
  have hm : n + m ≤ maxLen := by
   have hh : (n + m) * 1 ≤ (n + m) * bytes := Nat.mul_le_mul_left _ E.byt
   unfold maxLen
   omega
  obtain ⟨v', w', hrun, h2, h3, _, h5⟩ := run_append_own_at (P := P) w base t ty e i z sz bytes E.und hi hz hsz hby E.one E.pos v n xs hown ⟨b, off, none⟩ m c ys hlen
   (fun j u hu => by
    rw [Addr.add_lit]
    exact hc j u hu) h1 hm hb hbase
  obtain ⟨A', c', rfl⟩ := own_form h2
  exact ⟨A', c', w', hrun, h2, h3, h5⟩
theorem wpList_append_g {ops : Array Oper} {rest : List Oper} {o : Oper} {a : Act} {Q : Exit → Act → World → Prop} (hgd : o.guard = none) (s x : Operand) (t : TypeId)
  (ho : o.op = .call { callee := .builtin .append, args := #[s, x], argTypes := #[t, t] })
  {e : TypeId} {z : Value} {bytes sz base n : Nat} (E : Elem P t e z sz bytes) (v : Value) (xs : List Value) (hs : a.eval s = v) (hown : w.ownsRow base e sz v n xs)
  (A : Option Addr) (m c : Nat) (ys : List Value) (hx : a.eval x = .slice A m c) (hr : Cells w A ys) (hlen : ys.length = m * sz) (hmc : m ≤ c) (h1 : ∀ u ∈ ys, u.oneCell' = true)
  (hb : (n + m) * bytes ≤ 140737488355328) (hbase : base ≤ w.heap.size)
  (h : ∀ A' c' w', w'.ownsRow base e sz (.slice A' (n + m) c') (n + m) (xs ++ ys) → w.grownBy w' v.ownBlock →
   ((Value.slice A' (n + m) c').ownBlock = v.ownBlock ∨ (Value.slice A' (n + m) c').ownBlock = some w.heap.size) → wpList P ops Q rest (a.put o.dst (.slice A' (n + m) c')) w') :
  wpList P ops Q (o :: rest) a w := by
 refine wpList_plain hgd fun K hK => ?_
 obtain ⟨A', c', w', hrun, h2, h3, h5⟩ := run_append_g (P := P) (ty := o.type) E hown hr hlen hmc h1 hb hbase
 unfold Oper.wp execOp
 simp only [ho, resolve, invoke, builtin, Sem.run_bind, Sem.run_pure, Result.andThen_ok, List.map_toArray, List.map_cons, List.map_nil, hs, hx, hrun]
 exact hK _ _ (h A' c' w' h2 h3 h5)
theorem step_append_g {ops : Array Oper} {o : Oper} {a : Act} {K : Act → World → Prop} {Q : Exit → Act → World → Prop} {F : Prop} (hgd : o.guard = none) (s x : Operand) (t : TypeId)
  (ho : o.op = .call { callee := .builtin .append, args := #[s, x], argTypes := #[t, t] })
  {e : TypeId} {z : Value} {bytes sz base n : Nat} (E : Elem P t e z sz bytes) (v : Value) (xs : List Value) (hs : a.eval s = v) (hown : w.ownsRow base e sz v n xs)
  (A : Option Addr) (m c : Nat) (ys : List Value) (hx : a.eval x = .slice A m c) (hr : Cells w A ys) (hlen : ys.length = m * sz) (hmc : m ≤ c) (h1 : ∀ u ∈ ys, u.oneCell' = true)
  (hb : (n + m) * bytes ≤ 140737488355328) (hbase : base ≤ w.heap.size)
  (h : ∀ A' c' w', w'.ownsRow base e sz (.slice A' (n + m) c') (n + m) (xs ++ ys) → w.grownBy w' v.ownBlock →
   ((Value.slice A' (n + m) c').ownBlock = v.ownBlock ∨ (Value.slice A' (n + m) c').ownBlock = some w.heap.size) → K (a.put o.dst (.slice A' (n + m) c')) w') :
  if Region.wanted o (yielded ops a.tmps) = true then Oper.wp P o a w K Q else F := by
 have hw : Region.wanted o (yielded ops a.tmps) = true := by simp [Region.wanted, hgd]
 rw [if_pos hw]
 obtain ⟨A', c', w', hrun, h2, h3, h5⟩ := run_append_g (P := P) (ty := o.type) E hown hr hlen hmc h1 hb hbase
 unfold Oper.wp execOp
 simp only [ho, resolve, invoke, builtin, Sem.run_bind, Sem.run_pure, Result.andThen_ok, List.map_toArray, List.map_cons, List.map_nil, hs, hx, hrun]
 exact h A' c' w' h2 h3 h5
end
end

end Go.Proofs.YtippadnbngcjlaaGreatDoor
