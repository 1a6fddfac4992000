/- Texts of this seat, one behind the other: Base, NdM, ParM, ParT, AppG, ParZ. -/
import Derived.Below
import Derived.Laws.OwnMore
import Derived.Maps.AppendAt
import Derived.Deep.AppendLies
import Derived.Deep.Draws
import Derived.Lib.Hide
import Derived.WalkKit
import Derived.ProofKit
import Derived.OwnWalk
import Derived.RegionTactic
namespace Go.Proofs.YtchldahkcpbgcaaGreatDoor
set_option linter.unusedVariables false

/- Words for memory that all texts of this seat use: frames between two worlds, slices that read as lists. -/
section
open Go.RowKit
set_option linter.unusedSimpArgs false
@[go_sem] theorem setCell_drewN (w : World) (n : Nat) (a : Addr) (v : Value) : (w.drewN n).setCell a v = (w.setCell a v).drewN n := rfl
@[go_sem] theorem alloc_drewN (w : World) (n : Nat) (o : Obj) : (w.drewN n).alloc o = (w.alloc o).drewN n := rfl
structure Fr (S : List Nat) (w w' : World) : Prop where
 os : w'.os = w.os
 tape : w'.tape = w.tape
 output : w'.output = w.output
 size : w.heap.size ≤ w'.heap.size
 block : ∀ k, k < w.heap.size → k ∉ S → w'.heap[k]? = w.heap[k]?
section
variable {S T : List Nat} {a b c w w' : World}
theorem Fr.refl (S : List Nat) (w : World) : Fr S w w := ⟨rfl, rfl, rfl, Nat.le_refl _, fun _ _ _ => rfl⟩
theorem Fr.trans2 (h : Fr S a b) (k : Fr T b c) (hT : ∀ x ∈ T, x ∈ S ∨ a.heap.size ≤ x) : Fr S a c :=
 ⟨k.os.trans h.os, k.tape.trans h.tape, k.output.trans h.output, Nat.le_trans h.size k.size, fun i hi hn =>
  (k.block i (Nat.lt_of_lt_of_le hi h.size) (fun hm => by rcases hT i hm with h1 | h1 <;> first | exact hn h1 | omega)).trans (h.block i hi hn)⟩
theorem Fr.trans (h : Fr S a b) (k : Fr S b c) : Fr S a c := h.trans2 k fun _ hx => .inl hx
theorem Fr.trans0 (h : Fr S a b) (k : Fr [] b c) : Fr S a c := h.trans2 k fun _ hx => by cases hx
theorem Fr.mono (h : Fr S a b) (hS : ∀ x ∈ S, x ∈ T) : Fr T a b := ⟨h.os, h.tape, h.output, h.size, fun i hi hn => h.block i hi fun hm => hn (hS i hm)⟩
theorem Fr.below (h : Fr [] w w') : Below w.heap.size w w' := ⟨h.os, h.tape, h.output, h.size, fun k hk => h.block k hk (by simp)⟩
theorem Fr.of_below (h : Below w.heap.size w w') : Fr S w w' := ⟨h.os, h.tape, h.output, h.size, fun k hk _ => h.block k hk⟩
theorem Fr.drew (h : Fr S a w) : Fr S a w.drew := ⟨h.os, h.tape, h.output, h.size, h.block⟩
theorem Fr.drewN (h : Fr S a w) (n : Nat) : Fr S a (w.drewN n) := ⟨h.os, h.tape, h.output, h.size, h.block⟩
theorem Fr.alloc (h : Fr S a w) (o : Obj) : Fr S a (w.alloc o) :=
 h.trans2 (T := []) ⟨rfl, rfl, rfl, by simp, fun k hk _ => Below.heap_alloc _ _ _ hk⟩ fun _ hx => by cases hx
theorem Fr.setCell (h : Fr S a w) {p : Addr} (hp : p.block ∈ S ∨ a.heap.size ≤ p.block) (u : Value) : Fr S a (w.setCell p u) :=
 h.trans2 (T := [p.block]) ⟨rfl, rfl, rfl, by simp, fun k _ hk => Below.heap_setCell _ _ _ _ (by simpa using hk)⟩ fun x hx => by
  obtain rfl : x = p.block := by simpa using hx
  exact hp
theorem Fr.grown (h : Fr S a w) {row : Option Nat} (hg : w.grownBy w' row) (hr : ∀ k, row = some k → k ∈ S ∨ a.heap.size ≤ k) : Fr S a w' :=
 h.trans2 (T := row.toList) ⟨hg.os, hg.tape, hg.output, hg.size, fun k hk hn => hg.block k hk (fun e => hn (by rw [← e]; simp))⟩ fun x hx => hr x (by cases row <;> simp_all)
theorem Fr.cell (h : Fr S w w') {p : Addr} {u : Value} (hc : w.cell? p = some u) (hp : p.block ∉ S) : w'.cell? p = some u :=
 (World.cell?_of_block (h.block p.block (World.block_lt_of_cell? w p hc) hp)).trans hc
theorem Fr.heap (h : Fr S w w') {k : Nat} {o : Obj} (hk : w.heap[k]? = some o) (hn : k ∉ S) : w'.heap[k]? = some o :=
 (h.block k (lt_of_block hk) hn).trans hk
end
structure Rd {α : Type} (w : World) (enc : α → Value) (A : Option Addr) (c : Nat) (xs : List α) : Prop where
 le : xs.length ≤ c
 cap : c ≤ maxLen
 at0 : 0 < xs.length → ∃ b off, A = some ⟨b, off, none⟩ ∧ ∀ k x, xs[k]? = some x → w.cell? ⟨b, off + k, none⟩ = some (enc x)
section
variable {α : Type} {w w' : World} {enc : α → Value} {A : Option Addr} {c : Nat} {xs : List α} {S : List Nat} {b off : Nat}
theorem Rd.at_ (h : Rd w enc A c xs) {k : Nat} (hk : k < xs.length) : ∃ b off x, A = some ⟨b, off, none⟩ ∧ Hid (xs[k]? = some x) ∧ w.cell? ⟨b, off + k, none⟩ = some (enc x) := by
 obtain ⟨b, off, hA, hc⟩ := h.at0 (by omega)
 exact ⟨b, off, xs[k], hA, List.getElem?_eq_getElem hk, hc k _ (List.getElem?_eq_getElem hk)⟩
theorem Rd.bound (h : Rd w enc A c xs) : xs.length ≤ 9223372036854775807 := by
 have h1 := h.le
 have h2 := h.cap
 unfold maxLen at h2
 omega
theorem Rd.nil_ (w : World) (enc : α → Value) : Rd w enc none 0 [] := ⟨Nat.le_refl _, by unfold maxLen; omega, fun h => by simp at h⟩
theorem Rd.drewN (h : Rd w enc A c xs) (n : Nat) : Rd (w.drewN n) enc A c xs := ⟨h.le, h.cap, h.at0⟩
theorem Rd.drew (h : Rd w enc A c xs) : Rd w.drew enc A c xs := ⟨h.le, h.cap, h.at0⟩
theorem Rd.fr (h : Rd w enc A c xs) (hf : Fr S w w') (hn : 0 < xs.length → ∀ a, A = some a → a.block ∉ S) : Rd w' enc A c xs :=
 ⟨h.le, h.cap, fun h0 => by
  obtain ⟨b, off, hA, hc⟩ := h.at0 h0
  exact ⟨b, off, hA, fun k x hx => hf.cell (hc k x hx) (hn h0 ⟨b, off, none⟩ hA)⟩⟩
theorem Rd.fr0 (h : Rd w enc A c xs) (hf : Fr [] w w') : Rd w' enc A c xs := h.fr hf (by simp)
theorem Rd.setCell (h : Rd w enc A c xs) {p : Addr} (hn : 0 < xs.length → ∀ a, A = some a → a.block ≠ p.block) (u : Value) : Rd (w.setCell p u) enc A c xs :=
 h.fr ((Fr.refl [p.block] w).setCell (.inl (by simp)) u) (fun h0 a ha => by simpa using hn h0 a ha)
theorem Rd.lt (h : Rd w enc A c xs) (h0 : 0 < xs.length) (a : Addr) (ha : A = some a) : a.block < w.heap.size := by
 obtain ⟨b, off, rfl, hc⟩ := h.at0 h0
 injection ha with ha
 subst ha
 exact World.block_lt_of_cell? w _ (hc 0 xs[0] (by simp))
theorem Rd.alloc (h : Rd w enc A c xs) (o : Obj) : Rd (w.alloc o) enc A c xs := h.fr0 ((Fr.refl _ _).alloc o)
theorem Rd.of_own {base : Nat} {e : TypeId} {n : Nat} (h : w.ownsRow base e 1 (.slice A n c) n (xs.map enc)) : n = xs.length ∧ Rd w enc A c xs := by
 have hl : n = xs.length := by have := h.1; simp at this; omega
 subst hl
 refine ⟨rfl, ?_⟩
 rcases h.2 with ⟨he, h0⟩ | ⟨g, cap, cur, he, hb, hh, hnc, hcm, hsz, htk⟩
 ·injection he with e1 e2 e3
  subst e1 e3
  exact ⟨by omega, by unfold maxLen; omega, fun h1 => by omega⟩
 ·injection he with e1 e2 e3
  subst e1 e3
  exact ⟨hnc, hcm, fun _ => ⟨g, 0, rfl, fun k x hx => by
   have hk : k < xs.length := (List.getElem?_eq_some_iff.1 hx).1
   have := h.cellAt k (by omega)
   rw [Nat.zero_add, this]
   simp [hx]⟩⟩
end
theorem own_form {w : World} {base : Nat} {e : TypeId} {v : Value} {n : Nat} {xs : List Value} {size : Nat} (h : w.ownsRow base e size v n xs) : ∃ A c, v = .slice A n c := by
 rcases h.2 with ⟨rfl, rfl⟩ | ⟨g, cap, _, rfl, _⟩
 ·exact ⟨_, _, rfl⟩
 ·exact ⟨_, _, rfl⟩
theorem own_drewN {w : World} {base : Nat} {e : TypeId} {v : Value} {n size : Nat} {xs : List Value} (h : w.ownsRow base e size v n xs) (k : Nat) : (w.drewN k).ownsRow base e size v n xs := h
def RetQ (w : World) (v : Value) (e : Ending) (w' : World) : Prop := e = .returned v ∧ ∃ n, w' = w.drewN n
def RetV (w : World) (v : Value) (e : Ending) (w' : World) : Prop := e = .returned v ∧ Fr [] w w'
def RetOwn (w : World) (t : TypeId) (xs : List Value) (e : Ending) (w' : World) : Prop :=
 ∃ A c, e = .returned (.slice A xs.length c) ∧ Fr [] w w' ∧ w'.ownsRow w.heap.size t 1 (.slice A xs.length c) xs.length xs
theorem RetQ.v {w : World} {v : Value} {e : Ending} {w' : World} (h : RetQ w v e w') : RetV w v e w' := by
 obtain ⟨rfl, n, rfl⟩ := h
 exact ⟨rfl, (Fr.refl _ _).drewN n⟩
theorem quiet_of {P : Program} {f : FuncId} {args : Array Value} {w : World} {n : Nat} {v : Value} (h : Calls P f args (w.drewN n) (RetQ (w.drewN n) v)) :
  Calls P f args (w.drewN n) fun e w'' => e = .returned v ∧ ∃ m, w'' = w.drewN m :=
 h.mono fun _ _ ⟨he, m, hm⟩ => ⟨he, n + m, by rw [hm, World.drewN_drewN]⟩
theorem quiet_add {P : Program} {f : FuncId} {args : Array Value} {w : World} {a n : Nat} {v : Value} (h : Calls P f args (w.drewN (a + n)) (RetQ (w.drewN (a + n)) v)) :
  Calls P f args (w.drewN (a + n)) fun e w'' => e = .returned v ∧ ∃ m, w'' = w.drewN (a + m) :=
 h.mono fun _ _ ⟨he, m, hm⟩ => ⟨he, n + m, by rw [hm, World.drewN_drewN, Nat.add_assoc]⟩
theorem ret_bool {a b : Bool} (h : a = b) : Ending.returned (.bool a) = .returned (.bool b) := by rw [h]
theorem ret_int {k : IntKind} {a b : Int} (h : a = b) : Ending.returned (.int k a) = .returned (.int k b) := by rw [h]
structure Elem (P : Program) (t e : TypeId) (z : Value) (size bytes : Nat) : Prop where
 und : P.underlying t = some (.slice e)
 inf : (P.info? e).map (fun i => (i.zero, i.size, i.bytes)) = some (some z, size, bytes)
 one : z.cells.size = size
 pos : 0 < size
 byt : 1 ≤ bytes
theorem Rd.one {α : Type} (w : World) (e : TypeId) (enc : α → Value) (x : α) : Rd (w.alloc (.cells #[enc x] e)) enc (some ⟨w.heap.size, 0, none⟩) 1 [x] :=
  ⟨Nat.le_refl _, by unfold maxLen; omega, fun _ => ⟨_, 0, rfl, fun k y hy => by
    match k, hy with
    | 0, hy =>
      simp at hy
      subst hy
      simp⟩⟩

theorem Rd.two {α : Type} (w : World) (e : TypeId) (enc : α → Value) (x y : α) : Rd (w.alloc (.cells #[enc x, enc y] e)) enc (some ⟨w.heap.size, 0, none⟩) 2 [x, y] :=
  ⟨Nat.le_refl _, by unfold maxLen; omega, fun _ => ⟨_, 0, rfl, fun k z hz => by
    match k, hz with
    | 0, hz =>
      simp at hz
      subst hz
      simp
    | 1, hz =>
      simp at hz
      subst hz
      simp⟩⟩
section
variable {P : Program} {w : World}
theorem run_append_rd {α : Type} {t ty e : TypeId} {z : Value} {bytes base n : Nat} (E : Elem P t e z 1 bytes) {v : Value} {xs : List Value} (hown : w.ownsRow base e 1 v n xs)
  {A : Option Addr} {c : Nat} {news : List α} {enc : α → Value} (hr : Rd w enc A c news) (h1 : ∀ y, (enc y).oneCell' = true)
  (hb : (n + news.length) * bytes ≤ 140737488355328) (hbase : base ≤ w.heap.size) :
  ∃ A' c' w', (Builtin.append_ #[t, t] ty #[v, .slice A news.length c]).run P w = .ok (.slice A' (n + news.length) c') w' ∧ w'.ownsRow base e 1 (.slice A' (n + news.length) c') (n + news.length) (xs ++ news.map enc) ∧
   w.grownBy w' v.ownBlock ∧ ((Value.slice A' (n + news.length) c').ownBlock = v.ownBlock ∨ (Value.slice A' (n + news.length) c').ownBlock = some w.heap.size) := by
 obtain ⟨i, hi, hz, hsz, hby⟩ := info_parts E.inf
 have hlen : (news.map enc).length = news.length * 1 := by simp
 rcases Nat.eq_zero_or_pos news.length with h0 | h0
 ·have hn : news = [] := List.eq_nil_of_length_eq_zero h0
  subst hn
  obtain ⟨A', c', rfl⟩ := own_form hown
  refine ⟨A', c', w, ?_, by simpa using hown, World.grownBy.refl w _, .inl rfl⟩
  rcases A with _ | ad
  ·rcases hown.2 with ⟨he, hz0⟩ | ⟨g, cap, cur, he, _, _, hnc, _⟩
   ·injection he with e1 e2 e3
    subst e1 e3
    simp [Builtin.append_, run_underlying E.und, sizeOf, typeInfo, hi, Builtin.lenOf, Builtin.firstCells, hz0]
   ·injection he with e1 e2 e3
    subst e1 e3
    simp [Builtin.append_, run_underlying E.und, sizeOf, typeInfo, hi, Builtin.lenOf, Builtin.firstCells, hnc, storeCells]
  ·rcases hown.2 with ⟨he, hz0⟩ | ⟨g, cap, cur, he, _, _, hnc, _⟩
   ·injection he with e1 e2 e3
    subst e1 e3
    simp [Builtin.append_, run_underlying E.und, sizeOf, typeInfo, hi, Builtin.lenOf, Builtin.firstCells, hz0, loadCells, loadCellsFrom]
   ·injection he with e1 e2 e3
    subst e1 e3
    simp [Builtin.append_, run_underlying E.und, sizeOf, typeInfo, hi, Builtin.lenOf, Builtin.firstCells, hnc, storeCells, loadCells, loadCellsFrom]
 ·obtain ⟨b, off, rfl, hc⟩ := hr.at0 h0
  have hm : n + news.length ≤ maxLen := by
   have hh : (n + news.length) * 1 ≤ (n + news.length) * bytes := Nat.mul_le_mul_left _ E.byt
   unfold maxLen
   omega
  obtain ⟨v', w', hrun, h2, h3, _, h5⟩ := run_append_own_at (P := P) w base t ty e i z 1 bytes E.und hi hz hsz hby E.one E.pos v n xs hown ⟨b, off, none⟩ news.length c (news.map enc) hlen
   (fun j u hu => by
    simp only [List.getElem?_map, Option.map_eq_some_iff] at hu
    obtain ⟨x, hx, rfl⟩ := hu
    rw [Addr.add_lit]
    exact hc j x hx) (fun u hu => by
    obtain ⟨x, _, rfl⟩ := List.mem_map.1 hu
    exact h1 x) hm hb hbase
  obtain ⟨A', c', rfl⟩ := own_form h2
  exact ⟨A', c', w', hrun, h2, h3, h5⟩
theorem wpList_append_rd {α : Type} {ops : Array Oper} {rest : List Oper} {o : Oper} {a : Act} {Q : Exit → Act → World → Prop} (hgd : o.guard = none) (s x : Operand) (t : TypeId)
  (ho : o.op = .call { callee := .builtin .append, args := #[s, x], argTypes := #[t, t] })
  {e : TypeId} {z : Value} {bytes base n : Nat} (E : Elem P t e z 1 bytes) (v : Value) (xs : List Value) (hs : a.eval s = v) (hown : w.ownsRow base e 1 v n xs)
  (A : Option Addr) (c : Nat) (news : List α) (enc : α → Value) (hx : a.eval x = .slice A news.length c) (hr : Rd w enc A c news) (h1 : ∀ y, (enc y).oneCell' = true)
  (hb : (n + news.length) * bytes ≤ 140737488355328) (hbase : base ≤ w.heap.size)
  (h : ∀ A' c' w', w'.ownsRow base e 1 (.slice A' (n + news.length) c') (n + news.length) (xs ++ news.map enc) → w.grownBy w' v.ownBlock →
   ((Value.slice A' (n + news.length) c').ownBlock = v.ownBlock ∨ (Value.slice A' (n + news.length) c').ownBlock = some w.heap.size) → wpList P ops Q rest (a.put o.dst (.slice A' (n + news.length) c')) w') :
  wpList P ops Q (o :: rest) a w := by
 refine wpList_plain hgd fun K hK => ?_
 obtain ⟨A', c', w', hrun, h2, h3, h5⟩ := run_append_rd (P := P) (ty := o.type) E hown hr h1 hb hbase
 unfold Oper.wp execOp
 simp only [ho, resolve, invoke, builtin, Sem.run_bind, Sem.run_pure, Result.andThen_ok, List.map_toArray, List.map_cons, List.map_nil, hs, hx, hrun]
 exact hK _ _ (h A' c' w' h2 h3 h5)
end
def Gath (w : World) (e : TypeId) (zs : List Value) (v : Value) (wr : World) : Prop :=
 ∃ A c, v = .slice A zs.length c ∧ wr.ownsRow w.heap.size e 1 (.slice A zs.length c) zs.length zs ∧ Fr [] w wr
theorem Fr.app {S : List Nat} {w w1 w2 : World} {base n : Nat} {e : TypeId} {v : Value} {xs : List Value} {size : Nat} (hf : Fr S w w1) (h1 : w1.ownsRow base e size v n xs) (hb : w.heap.size ≤ base) (hg : w1.grownBy w2 v.ownBlock) : Fr S w w2 :=
 hf.grown hg fun k hk => .inr (Nat.le_trans hb (h1.lt k hk).1)
theorem Gath.same {w w1 : World} {e : TypeId} {n c : Nat} {A : Option Addr} {xs zs : List Value} (hf : Fr [] w w1) (h : w1.ownsRow w.heap.size e 1 (.slice A n c) n xs) (hz : zs = xs) : Gath w e zs (.slice A n c) w1 := by
 subst hz
 have hm : n = zs.length := by have := h.1; omega
 subst hm
 exact ⟨A, c, rfl, h, hf⟩
theorem Gath.ret {w w1 : World} {e : TypeId} {n c : Nat} {A : Option Addr} {xs zs : List Value} (hf : Fr [] w w1) (h : w1.ownsRow w.heap.size e 1 (.slice A n c) n xs) (hz : zs = xs) : RetOwn w e zs (.returned (.slice A n c)) w1 := by
 subst hz
 have hm : n = zs.length := by have := h.1; omega
 subst hm
 exact ⟨A, c, rfl, hf, h⟩
theorem wpList_makeN {P : Program} {w : World} {ops : Array Oper} {rest : List Oper} {o : Oper} {a : Act} {Q : Exit → Act → World → Prop}
  (hg : o.guard = none) (l c : Operand) (t : TypeId) (hop : o.op = Op.makeSlice t l c) {e : TypeId} {z : Value} {bytes : Nat} (E : Elem P t e z 1 bytes) (hz1 : z.cells = #[z])
  (n : Nat) (hl : a.eval l = .int .i64 n) (hc : a.eval c = .int .i64 n) (hb : bytes * n ≤ 140737488355328)
  (hK : ∀ w', w'.ownsRow w.heap.size e 1 (.slice (some ⟨w.heap.size, 0, none⟩) n n) n (List.replicate n z) → w.grownBy w' none → wpList P ops Q rest (a.put o.dst (.slice (some ⟨w.heap.size, 0, none⟩) n n)) w') :
  wpList P ops Q (o :: rest) a w := by
 obtain ⟨i, hi, hz, hsz, hby⟩ := info_parts E.inf
 have hm : n ≤ maxLen := by
  have hh : 1 * n ≤ bytes * n := Nat.mul_le_mul_right _ E.byt
  unfold maxLen
  omega
 exact wpList_make_full w hg l c t hop w.heap.size e i z 1 E.und hi hz hsz .i64 .i64 n n n hl hc rfl rfl (by rw [hby]; omega) hm (Nat.le_refl _) fun w' h1 h2 => hK w' (by rw [hz1, Nat.mul_one, toList_madeCells_one] at h1; exact h1) h2
theorem Gath.made {w w1 w2 : World} {e : TypeId} {n : Nat} {zs : List Value} {A : Option Addr} (hf : Fr [] w w1) (h : w2.ownsRow w1.heap.size e 1 (.slice A 0 n) 0 []) (hg : w1.grownBy w2 none) (hz : zs = []) : Gath w e zs (.slice A 0 n) w2 := by
 subst hz
 exact ⟨A, n, rfl, ⟨h.1, h.2.imp id fun ⟨g, cap, cur, h1, h2, h3⟩ => ⟨g, cap, cur, h1, Nat.le_trans hf.size h2, h3⟩⟩, hf.grown hg (by simp)⟩
theorem own_empty (w : World) (e : TypeId) (H : Nat) (hH : H = w.heap.size) : (w.alloc (.cells #[] e)).ownsRow H e 1 (.slice (some ⟨H, 0, none⟩) 0 0) 0 [] := by
 subst hH
 exact ⟨by simp, .inr ⟨w.heap.size, 0, #[], rfl, Nat.le_refl _, heap_alloc_new w _, Nat.le_refl _, by unfold maxLen; omega, rfl, rfl⟩⟩
theorem own_one (w : World) (e : TypeId) (u : Value) (H : Nat) (hH : H = w.heap.size) : (w.alloc (.cells #[u] e)).ownsRow H e 1 (.slice (some ⟨H, 0, none⟩) 1 1) 1 [u] := by
 subst hH
 exact ⟨by simp, .inr ⟨w.heap.size, 1, #[u], rfl, Nat.le_refl _, heap_alloc_new w _, Nat.le_refl _, by unfold maxLen; omega, rfl, rfl⟩⟩
theorem own_apart {w : World} {base bp n c size : Nat} {e : TypeId} {A : Option Addr} {xs : List Value} (h : w.ownsRow base e size (.slice A n c) n xs) (hb : bp < base) (a : Addr) (ha : A = some a) : a.block ≠ bp := by
 subst ha
 have := (h.lt a.block rfl).1
 omega
theorem own_rd {α : Type} {w : World} {base n m c : Nat} {e : TypeId} {A : Option Addr} {ys : List Value} {xs : List α} {enc : α → Value} (h : w.ownsRow base e 1 (.slice A n c) m ys) (hy : ys = xs.map enc) (hm : n = m) : Rd w enc A c xs := by
 subst hy hm
 exact (Rd.of_own h).2
theorem own_some {w : World} {base n c size : Nat} {e : TypeId} {A : Option Addr} {xs : List Value} (h : w.ownsRow base e size (.slice A n c) n xs) (h0 : 0 < n) : ∃ g, A = some ⟨g, 0, none⟩ ∧ base ≤ g ∧ g < w.heap.size := by
 rcases h.2 with ⟨he, hz⟩ | ⟨g, cap, cur, he, hb, hh, _⟩
 ·omega
 ·injection he with e1 e2 e3
  exact ⟨g, e1, hb, lt_of_block hh⟩
theorem own_base {w : World} {b b' : Nat} {e : TypeId} {size n : Nat} {v : Value} {xs : List Value} (h : w.ownsRow b e size v n xs) (hb : b' ≤ b) : w.ownsRow b' e size v n xs :=
 ⟨h.1, h.2.imp id fun ⟨g, cap, cur, h1, h2, h3⟩ => ⟨g, cap, cur, h1, Nat.le_trans hb h2, h3⟩⟩
def Blk (w : World) (g : Nat) (t : TypeId) (cs : Array Value) : Prop := w.heap[g]? = some (.cells cs t (0, 0))
section
variable {w w' : World} {g : Nat} {t : TypeId} {cs : Array Value}
theorem Blk.lt (h : Blk w g t cs) : g < w.heap.size := lt_of_block h
theorem Blk.cell (h : Blk w g t cs) (i : Nat) {u : Value} (hu : cs[i]? = some u) : w.cell? ⟨g, i, none⟩ = some u := (cell_of_row w g i cs t (0, 0) h).trans hu
theorem Blk.frozen (h : Blk w g t cs) (i : Nat) : w.frozen? ⟨g, i, none⟩ = false := by
 unfold Blk at h
 simp [World.frozen?, h]
theorem Blk.new (w : World) (t : TypeId) (cs : Array Value) (H : Nat) (hH : H = w.heap.size) : Blk (w.alloc (.cells cs t)) H t cs := by subst hH; exact heap_alloc_new w _
theorem Blk.drewN (h : Blk w g t cs) (n : Nat) : Blk (w.drewN n) g t cs := h
theorem Blk.drew (h : Blk w g t cs) : Blk w.drew g t cs := h
theorem Blk.alloc (h : Blk w g t cs) (o : Obj) : Blk (w.alloc o) g t cs := (Below.heap_alloc w o g h.lt).trans h
theorem Blk.set_ (h : Blk w g t cs) (i : Nat) (u : Value) : Blk (w.setCell ⟨g, i, none⟩ u) g t (cs.setIfInBounds i u) := heap_setCell_same w g i cs t u h
theorem Blk.far (h : Blk w g t cs) {p : Addr} (hp : g ≠ p.block) (u : Value) : Blk (w.setCell p u) g t cs := (Below.heap_setCell w p u g hp).trans h
theorem Blk.fr {S : List Nat} (h : Blk w g t cs) (hf : Fr S w w') (hn : g ∉ S) : Blk w' g t cs := hf.heap h hn
theorem Blk.grown {row : Option Nat} (h : Blk w g t cs) (hg : w.grownBy w' row) (hn : some g ≠ row) : Blk w' g t cs := (hg.block g h.lt hn).trans h
end
theorem Rd.apart {α : Type} {w : World} {enc : α → Value} {A : Option Addr} {c g : Nat} {t : TypeId} {xs : List α} {cs : Array Value} (h : Rd w enc A c xs) (hb : Blk w g t cs)
  (hne : ∀ (i : Nat) (u : Value), cs[i]? = some u → ∀ x, u ≠ enc x) (h0 : 0 < xs.length) (a : Addr) (ha : A = some a) : a.block ≠ g := by
 obtain ⟨b, off, rfl, hc⟩ := h.at0 h0
 injection ha with ha
 subst ha
 rintro rfl
 have h1 := hc 0 xs[0] (by simp)
 rw [cell_of_row w b (off + 0) _ t (0, 0) hb] at h1
 exact hne _ _ h1 _ rfl
theorem Rd.of_blk {α : Type} {w : World} {enc : α → Value} {g : Nat} {t : TypeId} {xs : List α} (h : Blk w g t (xs.map enc).toArray) (hm : xs.length ≤ maxLen) : Rd w enc (some ⟨g, 0, none⟩) xs.length xs :=
 ⟨Nat.le_refl _, hm, fun _ => ⟨g, 0, rfl, fun k x hx => by
  rw [Nat.zero_add, cell_of_row w g k _ t (0, 0) h]
  simp [hx]⟩⟩
def GathN (w : World) (e : TypeId) (zs : List Int) (v : Value) (wr : World) : Prop :=
 ∃ A c, v = .slice A zs.length c ∧ wr.ownsRow w.heap.size e 1 (.slice A zs.length c) zs.length (zs.map (.int .i64)) ∧ Fr [] w wr
theorem GathN.made {w w1 w2 : World} {e : TypeId} {n : Nat} {zs : List Int} {A : Option Addr} (hf : Fr [] w w1) (h : w2.ownsRow w1.heap.size e 1 (.slice A 0 n) 0 []) (hg : w1.grownBy w2 none) (hz : zs = []) : GathN w e zs (.slice A 0 n) w2 := by
 subst hz
 exact ⟨A, n, rfl, own_base h hf.size, hf.grown hg (by simp)⟩
theorem GathN.same {w w1 : World} {e : TypeId} {n c : Nat} {A : Option Addr} {xs : List Value} {zs : List Int} (hf : Fr [] w w1) (h : w1.ownsRow w.heap.size e 1 (.slice A n c) n xs) (hz : zs.map (.int .i64) = xs) : GathN w e zs (.slice A n c) w1 := by
 subst hz
 obtain ⟨hm, _⟩ := Rd.of_own h
 subst hm
 exact ⟨A, c, rfl, h, hf⟩
def RetN (w : World) (t : TypeId) (zs : List Int) (e : Ending) (w' : World) : Prop :=
 ∃ A c, e = .returned (.slice A zs.length c) ∧ Fr [] w w' ∧ w'.ownsRow w.heap.size t 1 (.slice A zs.length c) zs.length (zs.map (.int .i64))
theorem GathN.ret {w w1 : World} {e : TypeId} {n c : Nat} {A : Option Addr} {xs : List Value} {zs : List Int} (hf : Fr [] w w1) (h : w1.ownsRow w.heap.size e 1 (.slice A n c) n xs) (hz : zs.map (.int .i64) = xs) : RetN w e zs (.returned (.slice A n c)) w1 := by
 subst hz
 obtain ⟨hm, _⟩ := Rd.of_own h
 subst hm
 exact ⟨A, c, rfl, hf, h⟩
def Nw (B : Nat) (A : Option Addr) : Prop := ∀ a, A = some a → B ≤ a.block
theorem Nw.none_ (B : Nat) : Nw B none := fun _ h => by cases h
theorem Nw.mono {B B' : Nat} {A : Option Addr} (h : Nw B A) (hb : B' ≤ B) : Nw B' A := fun a ha => Nat.le_trans hb (h a ha)
theorem Nw.at_ {B b off : Nat} (h : B ≤ b) : Nw B (some ⟨b, off, none⟩) := fun a ha => by injection ha with ha; subst ha; exact h
theorem Nw.own {w : World} {base n c size : Nat} {e : TypeId} {A : Option Addr} {xs : List Value} (h : w.ownsRow base e size (.slice A n c) n xs) : Nw base A := fun a ha => by
 subst ha
 exact (h.lt a.block rfl).1
theorem own_fr {S : List Nat} {w w' : World} {base n size : Nat} {e : TypeId} {v : Value} {xs : List Value} (h : w.ownsRow base e size v n xs) (hf : Fr S w w') (hn : ∀ k, v.ownBlock = some k → k ∉ S) : w'.ownsRow base e size v n xs := by
 refine ⟨h.1, ?_⟩
 rcases h.2 with h0 | ⟨g, cap, cur, rfl, hb, hh, rest⟩
 ·exact .inl h0
 ·exact .inr ⟨g, cap, cur, rfl, hb, hf.heap hh (hn g rfl), rest⟩
theorem frx {S : List Nat} {w w' : World} (h : Fr S w w' := by repeat (first | exact Fr.refl _ _ | assumption | apply Fr.drewN | apply Fr.drew | apply Fr.alloc | refine Fr.setCell ?_ (by simp) _)) : Fr S w w' := h
end

/- Nodes of programs: what a slice of api.Node reads as. -/
section
open Go.RowKit
set_option linter.unusedSimpArgs false
inductive Nd where
 | mk (kind : Int) (text : ByteArray) (num : Int) (subs : List Nd) (params : List ByteArray) (body els : List Nd)
def Nd.kind : Nd → Int | .mk k _ _ _ _ _ _ => k
def Nd.text : Nd → ByteArray | .mk _ t _ _ _ _ _ => t
def Nd.num : Nd → Int | .mk _ _ m _ _ _ _ => m
def Nd.subs : Nd → List Nd | .mk _ _ _ s _ _ _ => s
def Nd.params : Nd → List ByteArray | .mk _ _ _ _ p _ _ => p
def Nd.body : Nd → List Nd | .mk _ _ _ _ _ b _ => b
def Nd.els : Nd → List Nd | .mk _ _ _ _ _ _ e => e
theorem Nd.eta (x : Nd) : Nd.mk x.kind x.text x.num x.subs x.params x.body x.els = x := by cases x; rfl
theorem Nd.ind {P : Nd → Prop} (h : ∀ x : Nd, (∀ y ∈ x.subs, P y) → (∀ y ∈ x.body, P y) → (∀ y ∈ x.els, P y) → P x) (x : Nd) : P x :=
 Nd.rec (motive_1 := P) (motive_2 := fun l => ∀ y ∈ l, P y) (fun k t m s p b e hs hb he => h (.mk k t m s p b e) hs hb he)
  (fun _ hy => by cases hy) (fun x l h1 h2 y hy => by
   rcases List.mem_cons.1 hy with rfl | hy
   ·exact h1
   ·exact h2 y hy) x
structure HdN where
 As : Option Addr
 cs : Nat
 Ap : Option Addr
 cp : Nat
 Ab : Option Addr
 cb : Nat
 Ae : Option Addr
 ce : Nat
abbrev ndCells (x : Nd) (h : HdN) : Array Value := #[.int .u8 x.kind, .string x.text, .int .i64 x.num, .slice h.As x.subs.length h.cs, .slice h.Ap x.params.length h.cp, .slice h.Ab x.body.length h.cb, .slice h.Ae x.els.length h.ce]
def NdOk (x : Nd) : Prop := (0 ≤ x.kind ∧ x.kind ≤ 255) ∧ (-9223372036854775808 ≤ x.num ∧ x.num ≤ 9223372036854775807)
structure NdAt (w : World) (b o : Nat) (x : Nd) (h : HdN) : Prop where
 c0 : w.cell? ⟨b, o, none⟩ = some (.int .u8 x.kind)
 c1 : w.cell? ⟨b, o + 1, none⟩ = some (.string x.text)
 c2 : w.cell? ⟨b, o + 2, none⟩ = some (.int .i64 x.num)
 c3 : w.cell? ⟨b, o + 3, none⟩ = some (.slice h.As x.subs.length h.cs)
 c4 : w.cell? ⟨b, o + 4, none⟩ = some (.slice h.Ap x.params.length h.cp)
 c5 : w.cell? ⟨b, o + 5, none⟩ = some (.slice h.Ab x.body.length h.cb)
 c6 : w.cell? ⟨b, o + 6, none⟩ = some (.slice h.Ae x.els.length h.ce)
def RdS {α : Type} (S : Nat → Prop) (w : World) (enc : α → Value) (A : Option Addr) (c : Nat) (xs : List α) : Prop := Rd w enc A c xs ∧ (0 < xs.length → ∀ a, A = some a → ¬ S a.block)
def LN (S : Nat → Prop) : Nat → World → Option Addr → Nat → List Nd → Prop
 | 0, _, _, _, _ => False
 | n + 1, w, A, c, l => l.length ≤ c ∧ c ≤ maxLen ∧ (0 < l.length → ∃ b off, A = some ⟨b, off, none⟩ ∧ ¬ S b ∧ ∀ k x, l[k]? = some x → ∃ h : HdN, NdAt w b (off + k * 7) x h ∧ NdOk x ∧
   LN S n w h.As h.cs x.subs ∧ RdS S w .string h.Ap h.cp x.params ∧ LN S n w h.Ab h.cb x.body ∧ LN S n w h.Ae h.ce x.els)
structure NdH (S : Nat → Prop) (n : Nat) (w : World) (h : HdN) (x : Nd) : Prop where
 ok : NdOk x
 subs : LN S n w h.As h.cs x.subs
 params : RdS S w .string h.Ap h.cp x.params
 body : LN S n w h.Ab h.cb x.body
 els : LN S n w h.Ae h.ce x.els
def VN (S : Nat → Prop) (n : Nat) (w : World) (v : Value) (x : Nd) : Prop := ∃ h, v = .agg (ndCells x h) ∧ NdH S n w h x
section
variable {S S' : Nat → Prop} {w w' : World} {A : Option Addr} {c n m b o : Nat} {l : List Nd} {x : Nd} {h : HdN} {v : Value}
theorem LN.bound (hl : LN S n w A c l) : l.length ≤ 9223372036854775807 ∧ c ≤ 9223372036854775807 ∧ l.length ≤ c := by
 cases n with
 | zero => exact absurd hl id
 | succ n => have h1 := hl.1; have h2 := hl.2.1; unfold maxLen at h2; omega
theorem LN.len (hl : LN S n w A c l) : l.length ≤ 9223372036854775807 := hl.bound.1
theorem LN.at_ (hl : LN S (n + 1) w A c l) {k : Nat} (hk : k < l.length) : ∃ b off x h, A = some ⟨b, off, none⟩ ∧ Hid (l[k]? = some x) ∧ NdAt w b (off + k * 7) x h ∧ NdH S n w h x ∧ ¬ S b := by
 obtain ⟨b, off, hA, hb, hx⟩ := hl.2.2 (by omega)
 obtain ⟨h, h1, h2, h3, h4, h5, h6⟩ := hx k _ (List.getElem?_eq_getElem hk)
 exact ⟨b, off, _, h, hA, List.getElem?_eq_getElem hk, h1, ⟨h2, h3, h4, h5, h6⟩, hb⟩
theorem LN.nil (S : Nat → Prop) (n : Nat) (w : World) (A : Option Addr) (hc : c ≤ maxLen) : LN S (n + 1) w A c [] := ⟨Nat.zero_le _, hc, fun h => absurd h (Nat.lt_irrefl _)⟩
theorem LN.nil0 (S : Nat → Prop) (n : Nat) (w : World) (A : Option Addr) : LN S (n + 1) w A 0 [] := LN.nil S n w A (Nat.zero_le _)
theorem NdAt.imp (hx : NdAt w b o x h) (hc : ∀ p u, p.block = b → w.cell? p = some u → w'.cell? p = some u) : NdAt w' b o x h :=
 ⟨hc _ _ rfl hx.c0, hc _ _ rfl hx.c1, hc _ _ rfl hx.c2, hc _ _ rfl hx.c3, hc _ _ rfl hx.c4, hc _ _ rfl hx.c5, hc _ _ rfl hx.c6⟩
theorem NdAt.fr {Z : List Nat} (hx : NdAt w b o x h) (hf : Fr Z w w') (hb : b ∉ Z) : NdAt w' b o x h := hx.imp fun p u hp h1 => hf.cell h1 (by rw [hp]; exact hb)
theorem NdAt.fr0 (hx : NdAt w b o x h) (hf : Fr [] w w') : NdAt w' b o x h := hx.fr hf (by simp)
theorem NdAt.lt (hx : NdAt w b o x h) : b < w.heap.size := World.block_lt_of_cell? w _ hx.c0
theorem RdS.lt {α : Type} {enc : α → Value} {xs : List α} (hx : RdS S w enc A c xs) (h0 : 0 < xs.length) {a : Addr} (ha : A = some a) : a.block < w.heap.size := by
 obtain ⟨b, off, hA, hc⟩ := hx.1.at0 h0
 have := World.block_lt_of_cell? w _ (hc 0 xs[0] (by simp))
 rw [hA] at ha
 injection ha with ha
 subst ha
 exact this
theorem RdS.imp {α : Type} {enc : α → Value} {xs : List α} (hx : RdS S w enc A c xs) (hS : ∀ k, k < w.heap.size → ¬ S k → ¬ S' k) (hc : ∀ p u, ¬ S p.block → w.cell? p = some u → w'.cell? p = some u) : RdS S' w' enc A c xs :=
  ⟨⟨hx.1.le, hx.1.cap, fun h0 => by
    obtain ⟨b, off, hA, h1⟩ := hx.1.at0 h0
    exact ⟨b, off, hA, fun k y hy => hc _ _ (show ¬ S b from hx.2 h0 ⟨b, off, none⟩ hA) (h1 k y hy)⟩⟩, fun h0 a ha => hS _ (hx.lt h0 ha) (hx.2 h0 a ha)⟩
theorem RdS.fr {α : Type} {enc : α → Value} {xs : List α} {Z : List Nat} (hx : RdS S w enc A c xs) (hf : Fr Z w w') (hS : ∀ k ∈ Z, S k) : RdS S w' enc A c xs :=
 hx.imp (fun _ _ h => h) fun p u hp h1 => hf.cell h1 fun hm => hp (hS _ hm)
theorem RdS.fr0 {α : Type} {enc : α → Value} {xs : List α} (hx : RdS S w enc A c xs) (hf : Fr [] w w') : RdS S w' enc A c xs := hx.fr hf (by simp)
theorem RdS.sub {α : Type} {enc : α → Value} {xs : List α} (hx : RdS S w enc A c xs) (hS : ∀ k, k < w.heap.size → S' k → S k) : RdS S' w enc A c xs := hx.imp (fun k hk h hm => h (hS k hk hm)) fun _ _ _ h => h
theorem RdS.of {α : Type} {enc : α → Value} {xs : List α} (hx : Rd w enc A c xs) : RdS (fun _ => False) w enc A c xs := ⟨hx, fun _ _ _ h => h⟩
theorem LN.imp (hS : ∀ k, k < w.heap.size → ¬ S k → ¬ S' k) (hc : ∀ p u, ¬ S p.block → w.cell? p = some u → w'.cell? p = some u) : ∀ {n m : Nat} {A : Option Addr} {c : Nat} {l : List Nd}, n ≤ m → LN S n w A c l → LN S' m w' A c l
  | 0, _, _, _, _, _, h => absurd h id
  | n + 1, 0, _, _, _, hl, _ => absurd hl (by omega)
  | n + 1, m + 1, _, _, _, hl, h => by
    refine ⟨h.1, h.2.1, fun h0 => ?_⟩
    obtain ⟨b, off, hA, hb, hx⟩ := h.2.2 h0
    have hlt : b < w.heap.size := by
      obtain ⟨hd, h1, _⟩ := hx 0 _ (List.getElem?_eq_getElem h0)
      exact h1.lt
    refine ⟨b, off, hA, hS b hlt hb, fun k x hk => ?_⟩
    obtain ⟨hd, h1, h2, h3, h4, h5, h6⟩ := hx k x hk
    exact ⟨hd, h1.imp (fun p u hp h7 => hc p u (by rw [hp]; exact hb) h7), h2, LN.imp hS hc (Nat.le_of_succ_le_succ hl) h3, h4.imp hS hc, LN.imp hS hc (Nat.le_of_succ_le_succ hl) h5, LN.imp hS hc (Nat.le_of_succ_le_succ hl) h6⟩
theorem LN.mono (h : LN S n w A c l) (hl : n ≤ m) : LN S m w A c l := LN.imp (fun _ _ h => h) (fun _ _ _ h => h) hl h
theorem LN.fr {Z : List Nat} (h : LN S n w A c l) (hf : Fr Z w w') (hS : ∀ k ∈ Z, S k) : LN S n w' A c l := LN.imp (fun _ _ h => h) (fun p u hp h1 => hf.cell h1 fun hm => hp (hS _ hm)) (Nat.le_refl _) h
theorem LN.fr0 (h : LN S n w A c l) (hf : Fr [] w w') : LN S n w' A c l := h.fr hf (by simp)
theorem LN.sub (h : LN S n w A c l) (hS : ∀ k, k < w.heap.size → S' k → S k) : LN S' n w A c l := LN.imp (fun k hk h hm => h (hS k hk hm)) (fun _ _ _ h => h) (Nat.le_refl _) h
theorem NdH.imp {h : HdN} (hx : NdH S n w h x) (hl : n ≤ m) (hS : ∀ k, k < w.heap.size → ¬ S k → ¬ S' k) (hc : ∀ p u, ¬ S p.block → w.cell? p = some u → w'.cell? p = some u) : NdH S' m w' h x :=
 ⟨hx.ok, LN.imp hS hc hl hx.subs, hx.params.imp hS hc, LN.imp hS hc hl hx.body, LN.imp hS hc hl hx.els⟩
theorem NdH.mono (hx : NdH S n w h x) (hl : n ≤ m) : NdH S m w h x := hx.imp hl (fun _ _ h => h) (fun _ _ _ h => h)
theorem NdH.fr {Z : List Nat} (hx : NdH S n w h x) (hf : Fr Z w w') (hS : ∀ k ∈ Z, S k) : NdH S n w' h x := hx.imp (Nat.le_refl _) (fun _ _ h => h) (fun p u hp h1 => hf.cell h1 fun hm => hp (hS _ hm))
theorem NdH.fr0 (hx : NdH S n w h x) (hf : Fr [] w w') : NdH S n w' h x := hx.fr hf (by simp)
theorem NdH.sub (hx : NdH S n w h x) (hS : ∀ k, k < w.heap.size → S' k → S k) : NdH S' n w h x := hx.imp (Nat.le_refl _) (fun k hk h hm => h (hS k hk hm)) (fun _ _ _ h => h)
theorem VN.fr {Z : List Nat} (hv : VN S n w v x) (hf : Fr Z w w') (hS : ∀ k ∈ Z, S k) : VN S n w' v x := by
 obtain ⟨h, hv, hx⟩ := hv
 exact ⟨h, hv, hx.fr hf hS⟩
theorem VN.fr0 (hv : VN S n w v x) (hf : Fr [] w w') : VN S n w' v x := hv.fr hf (by simp)
theorem VN.mono (hv : VN S n w v x) (hl : n ≤ m) : VN S m w v x := by
 obtain ⟨h, hv, hx⟩ := hv
 exact ⟨h, hv, hx.mono hl⟩
theorem VN.sub (hv : VN S n w v x) (hS : ∀ k, k < w.heap.size → S' k → S k) : VN S' n w v x := by
 obtain ⟨h, hv, hx⟩ := hv
 exact ⟨h, hv, hx.sub hS⟩
end
structure Fu where
 name : ByteArray
 params : List ByteArray
 body : List Nd
structure RF (S : Nat → Prop) (n : Nat) (w : World) (A : Option Addr) (c : Nat) (fs : List Fu) : Prop where
 le : fs.length ≤ c
 cap : c ≤ maxLen
 at0 : 0 < fs.length → ∃ b off, A = some ⟨b, off, none⟩ ∧ ¬ S b ∧ ∀ k f, fs[k]? = some f → ∃ Ap cp Ab cb, w.cell? ⟨b, off + k * 3, none⟩ = some (.string f.name) ∧ w.cell? ⟨b, off + k * 3 + 1, none⟩ = some (.slice Ap f.params.length cp) ∧
  w.cell? ⟨b, off + k * 3 + 2, none⟩ = some (.slice Ab f.body.length cb) ∧ RdS S w .string Ap cp f.params ∧ LN S n w Ab cb f.body
section
variable {S S' : Nat → Prop} {w w' : World} {A : Option Addr} {c n m : Nat} {fs : List Fu}
theorem RF.bound (h : RF S n w A c fs) : fs.length ≤ 9223372036854775807 := by
 have h1 := h.le
 have h2 := h.cap
 unfold maxLen at h2
 omega
theorem RF.at_ (h : RF S n w A c fs) {k : Nat} (hk : k < fs.length) : ∃ b off f Ap cp Ab cb, A = some ⟨b, off, none⟩ ∧ Hid (fs[k]? = some f) ∧ w.cell? ⟨b, off + k * 3, none⟩ = some (.string f.name) ∧ w.cell? ⟨b, off + k * 3 + 1, none⟩ = some (.slice Ap f.params.length cp) ∧
  w.cell? ⟨b, off + k * 3 + 2, none⟩ = some (.slice Ab f.body.length cb) ∧ RdS S w .string Ap cp f.params ∧ LN S n w Ab cb f.body ∧ ¬ S b := by
 obtain ⟨b, off, hA, hb, hx⟩ := h.at0 (by omega)
 obtain ⟨Ap, cp, Ab, cb, h1, h2, h3, h4, h5⟩ := hx k _ (List.getElem?_eq_getElem hk)
 exact ⟨b, off, _, Ap, cp, Ab, cb, hA, List.getElem?_eq_getElem hk, h1, h2, h3, h4, h5, hb⟩
theorem RF.imp (h : RF S n w A c fs) (hl : n ≤ m) (hS : ∀ k, k < w.heap.size → ¬ S k → ¬ S' k) (hc : ∀ p u, ¬ S p.block → w.cell? p = some u → w'.cell? p = some u) : RF S' m w' A c fs :=
 ⟨h.le, h.cap, fun h0 => by
  obtain ⟨b, off, hA, hb, hx⟩ := h.at0 h0
  have hlt : b < w.heap.size := by
   obtain ⟨Ap, cp, Ab, cb, h1, _⟩ := hx 0 _ (List.getElem?_eq_getElem h0)
   exact World.block_lt_of_cell? w _ h1
  refine ⟨b, off, hA, hS b hlt hb, fun k f hk => ?_⟩
  obtain ⟨Ap, cp, Ab, cb, h1, h2, h3, h4, h5⟩ := hx k f hk
  exact ⟨Ap, cp, Ab, cb, hc _ _ hb h1, hc _ _ hb h2, hc _ _ hb h3, h4.imp hS hc, LN.imp hS hc hl h5⟩⟩
theorem RF.mono (h : RF S n w A c fs) (hl : n ≤ m) : RF S m w A c fs := h.imp hl (fun _ _ h => h) (fun _ _ _ h => h)
theorem RF.fr {Z : List Nat} (h : RF S n w A c fs) (hf : Fr Z w w') (hS : ∀ k ∈ Z, S k) : RF S n w' A c fs := h.imp (Nat.le_refl _) (fun _ _ h => h) (fun p u hp h1 => hf.cell h1 fun hm => hp (hS _ hm))
theorem RF.fr0 (h : RF S n w A c fs) (hf : Fr [] w w') : RF S n w' A c fs := h.fr hf (by simp)
theorem RF.sub (h : RF S n w A c fs) (hS : ∀ k, k < w.heap.size → S' k → S k) : RF S' n w A c fs := h.imp (Nat.le_refl _) (fun k hk h hm => h (hS k hk hm)) (fun _ _ _ h => h)
end
end

/- The words of a text, and the program that they are: plain. -/
section
open Go.RowKit
set_option linter.unusedSimpArgs false
structure Wd where
 what : Nat
 text : ByteArray
 place : Nat
def isW (ws : List Wd) (i : Nat) (s : ByteArray) : Bool :=
 match ws[i]? with
 | some w => (w.what != 0 && w.what != 2) && decide (w.text = s)
 | none => false
def nameW (ws : List Wd) (i : Nat) : Option ByteArray :=
 match ws[i]? with
 | some w => if w.what = 0 then some w.text else none
 | none => none
def numW (ws : List Wd) (i : Nat) : Option ByteArray :=
 match ws[i]? with
 | some w => if w.what = 2 then some w.text else none
 | none => none
def bt (l : List UInt8) : ByteArray := ⟨l.toArray⟩
def digits (l : List UInt8) : Nat := l.foldl (fun a b => a * 10 + (b.toNat - 48)) 0
def simpleK (ws : List Wd) (i : Nat) : Option Int :=
  match ws[i]? with
  | none => none
  | some w => if w.what ≠ 0 ∧ w.what ≠ 2 then
      (if w.text = bt [114, 101, 116, 117, 114, 110] then some 19 else if w.text = bt [116, 104, 114, 111, 119] then some 20 else if w.text = bt [106, 111, 105, 110] then some 22
       else if w.text = bt [108, 111, 99, 107] then some 23 else if w.text = bt [117, 110, 108, 111, 99, 107] then some 24 else if w.text = bt [112, 114, 105, 110, 116] then some 25
       else if w.text = bt [97, 115, 115, 101, 114, 116] then some 26 else none) else none
def opsOf : Nat → List ByteArray
 | 0 => [bt [124]]
 | 1 => [bt [38]]
 | 2 => [bt [61, 61], bt [33, 61], bt [60], bt [60, 61], bt [62], bt [62, 61]]
 | 3 => [bt [43], bt [45]]
 | 4 => [bt [42], bt [47], bt [37]]
 | _ => []
def opW (ws : List Wd) (i lv : Nat) : Option ByteArray :=
 match ws[i]? with
 | none => none
 | some w => if (w.what ≠ 0 ∧ w.what ≠ 2) ∧ (opsOf lv).any (fun t => decide (w.text = t)) = true then some w.text else none
def ndk (k : Int) (t : ByteArray) (subs : List Nd) : Nd := .mk k t 0 subs [] [] []
inductive Out where
 | ok (l : List Nd) (b : Bool) (j : Nat)
 | bad (j : Nat)
def andW (o : Option Out) (f : List Nd → Bool → Nat → Option Out) : Option Out :=
 match o with
 | none => none
 | some (.bad j) => some (.bad j)
 | some (.ok l b j) => f l b j
def endedW (ws : List Wd) (x : Nd) (j : Nat) : Option Out := if isW ws j (bt [59]) then some (.ok [x] false (j + 1)) else some (.bad j)
def nmL : List Wd → List ByteArray → Nat → (List ByteArray × Nat) ⊕ Nat
 | [], acc, i => .inr i
 | w :: [], acc, i => if isW [w] 0 (bt [44]) then .inr (i + 1) else if isW [w] 0 (bt [41]) then .inl (acc, i + 1) else .inr i
 | w :: v :: l, acc, i => if isW [w] 0 (bt [44]) then (if v.what = 0 then nmL l (acc ++ [v.text]) (i + 2) else .inr (i + 1)) else if isW [w] 0 (bt [41]) then .inl (acc, i + 1) else .inr i
def namesW (ws : List Wd) (i : Nat) : (List ByteArray × Nat) ⊕ Nat :=
  if isW ws i (bt [40]) then
    (if isW ws (i + 1) (bt [41]) then .inl ([], i + 2)
     else match nameW ws (i + 1) with
      | none => .inr (i + 1)
      | some t => nmL (ws.drop (i + 2)) [t] (i + 2))
  else .inr i

inductive Job where
 | block
 | blockL (acc : List Nd)
 | stmt
 | other
 | expr
 | bin (lv : Nat)
 | binL (lv : Nat) (x : Nd) (b : Bool)
 | unary
 | args
 | argsL (acc : List Nd)
 | pfx
 | postL (x : Nd) (b : Bool)
 | called (k : Int)
 | unit
 | atom
def hd1 : List Nd → Nd
 | x :: _ => x
 | [] => ndk 0 (bt []) []
def P (ws : List Wd) : Nat → Job → Nat → Option Out
  | 0, _, _ => none
  | n + 1, .block, i => if isW ws i (bt [123]) then P ws n (.blockL []) (i + 1) else some (.bad i)
  | n + 1, .blockL acc, i => if isW ws i (bt [125]) then some (.ok acc false (i + 1)) else andW (P ws n .stmt i) fun l _ j => P ws n (.blockL (acc ++ [hd1 l])) j
  | n + 1, .stmt, i =>
    match (if isW ws (i + 1) (bt [61]) then nameW ws i else none) with
    | some t => andW (P ws n .expr (i + 2)) fun l _ j => endedW ws (ndk 15 t [hd1 l]) j
    | none => match simpleK ws i with
      | some k => andW (P ws n .expr (i + 1)) fun l _ j => endedW ws (ndk k (bt []) [hd1 l]) j
      | none =>
        if isW ws i (bt [108, 101, 116]) then
          (match nameW ws (i + 1) with
           | none => some (.bad (i + 1))
           | some t => if isW ws (i + 2) (bt [61]) then andW (P ws n .expr (i + 3)) fun l _ j => endedW ws (ndk 14 t [hd1 l]) j else some (.bad (i + 2)))
        else if isW ws i (bt [105, 102]) then
          andW (P ws n .expr (i + 1)) fun l _ j => andW (P ws n .block j) fun b _ j2 =>
            if isW ws j2 (bt [101, 108, 115, 101]) then andW (P ws n .block (j2 + 1)) fun e _ j3 => some (.ok [.mk 17 (bt []) 0 [hd1 l] [] b e] false j3)
            else some (.ok [.mk 17 (bt []) 0 [hd1 l] [] b []] false j2)
        else if isW ws i (bt [119, 104, 105, 108, 101]) then
          andW (P ws n .expr (i + 1)) fun l _ j => andW (P ws n .block j) fun b _ j2 => some (.ok [.mk 18 (bt []) 0 [hd1 l] [] b []] false j2)
        else if isW ws i (bt [116, 114, 121]) then
          andW (P ws n .block (i + 1)) fun b _ j => if isW ws j (bt [99, 97, 116, 99, 104]) then
            (match nameW ws (j + 1) with
             | none => some (.bad (j + 1))
             | some t => andW (P ws n .block (j + 2)) fun e _ j2 => some (.ok [.mk 21 t 0 [] [] b e] false j2)) else some (.bad j)
        else P ws n .other i
  | n + 1, .other, i => andW (P ws n (.bin 0) i) fun l b j => if b && isW ws j (bt [61]) then andW (P ws n .expr (j + 1)) fun m _ j2 => endedW ws (ndk 16 (bt []) ((hd1 l).subs.take 2 ++ [hd1 m])) j2 else endedW ws (ndk 27 (bt []) [hd1 l]) j
  | n + 1, .expr, i => andW (P ws n (.bin 0) i) fun l _ j => some (.ok l false j)
  | n + 1, .bin lv, i => if lv = 5 then P ws n .unary i else andW (P ws n (.bin (lv + 1)) i) fun l b j => P ws n (.binL lv (hd1 l) b) j
  | n + 1, .binL lv x b, i =>
    match opW ws i lv with
    | none => some (.ok [x] b i)
    | some t => andW (P ws n (.bin (lv + 1)) (i + 1)) fun l _ j => if lv = 2 then some (.ok [ndk 4 t [x, hd1 l]] false j) else P ws n (.binL lv (ndk 4 t [x, hd1 l]) false) j
  | n + 1, .unary, i =>
    if isW ws i (bt [45]) then andW (P ws n .unary (i + 1)) fun l _ j => some (.ok [ndk 3 (bt [45]) [hd1 l]] false j)
    else if isW ws i (bt [33]) then andW (P ws n .unary (i + 1)) fun l _ j => some (.ok [ndk 3 (bt [33]) [hd1 l]] false j)
    else P ws n .pfx i
  | n + 1, .args, i => if isW ws i (bt [41]) then some (.ok [] false (i + 1)) else andW (P ws n .expr i) fun l _ j => P ws n (.argsL [hd1 l]) j
  | n + 1, .argsL acc, i => if isW ws i (bt [44]) then andW (P ws n .expr (i + 1)) fun l _ j => P ws n (.argsL (acc ++ [hd1 l])) j else if isW ws i (bt [41]) then some (.ok acc false (i + 1)) else some (.bad i)
  | n + 1, .pfx, i => andW (P ws n .atom i) fun l _ j => P ws n (.postL (hd1 l) false) j
  | n + 1, .postL x b, i =>
    if isW ws i (bt [91]) then andW (P ws n .expr (i + 1)) fun l _ j => if isW ws j (bt [93]) then P ws n (.postL (ndk 8 (bt []) [x, hd1 l]) true) (j + 1) else some (.bad j)
    else if isW ws i (bt [46]) then (if isW ws (i + 1) (bt [40]) then andW (P ws n .args (i + 2)) fun l _ j => P ws n (.postL (ndk 6 (bt []) (x :: l)) false) j else some (.bad (i + 1)))
    else some (.ok [x] b i)
  | n + 1, .called k, i =>
    match nameW ws i with
    | none => some (.bad i)
    | some t => if isW ws (i + 1) (bt [40]) then andW (P ws n .args (i + 2)) fun l _ j => some (.ok [ndk k t l] false j) else some (.bad (i + 1))
  | n + 1, .unit, i => if isW ws i (bt [40]) then andW (P ws n .expr (i + 1)) fun l _ j => if isW ws j (bt [41]) then some (.ok [hd1 l] false (j + 1)) else some (.bad j) else some (.bad i)
  | n + 1, .atom, i =>
    match numW ws i with
    | some t => some (.ok [.mk 1 (bt []) (digits t.data.toList) [] [] [] []] false (i + 1))
    | none => match nameW ws i with
      | some t => if isW ws (i + 1) (bt [40]) then P ws n (.called 5) i else some (.ok [ndk 2 t []] false (i + 1))
      | none =>
        if isW ws i (bt [40]) then P ws n .unit i
        else if isW ws i (bt [115, 112, 97, 119, 110]) then P ws n (.called 13) (i + 1)
        else if isW ws i (bt [110, 101, 119]) then andW (P ws n .unit (i + 1)) fun l _ j => some (.ok [ndk 7 (bt []) [hd1 l]] false j)
        else if isW ws i (bt [108, 101, 110]) then andW (P ws n .unit (i + 1)) fun l _ j => some (.ok [ndk 9 (bt []) [hd1 l]] false j)
        else if isW ws i (bt [105, 110, 112, 117, 116]) then some (.ok [ndk 11 (bt []) []] false (i + 1))
        else if isW ws i (bt [99, 108, 111, 99, 107]) then some (.ok [ndk 12 (bt []) []] false (i + 1))
        else if isW ws i (bt [102, 110]) then
          (match namesW ws (i + 1) with
           | .inr j => some (.bad j)
           | .inl (ns, j) => andW (P ws n .block j) fun b _ j2 => some (.ok [.mk 10 (bt []) 0 [] ns b []] false j2))
        else some (.bad i)
end

/- The parser comes to an end, with so much fuel as the words that are left allow: plain. -/
section
open Go.RowKit
set_option linter.unusedSimpArgs false
def LeO (a b : Option Out) : Prop := ∀ r, a = some r → b = some r
theorem LeO.rfl' (a : Option Out) : LeO a a := fun _ h => h
theorem LeO.and {a b : Option Out} {f g : List Nd → Bool → Nat → Option Out} (h : LeO a b) (hf : ∀ l c j, LeO (f l c j) (g l c j)) : LeO (andW a f) (andW b g) := by
  intro r hr
  cases a with
  | none => simp [andW] at hr
  | some o =>
    rw [h o rfl]
    cases o with
    | bad j => exact hr
    | ok l c j => exact hf l c j r hr
theorem LeO.ite {a b a' b' : Option Out} {c : Prop} [Decidable c] (h1 : LeO a a') (h2 : LeO b b') : LeO (if c then a else b) (if c then a' else b') := by
 split
 ·exact h1
 ·exact h2
theorem P_step (ws : List Wd) (n : Nat) : ∀ (job : Job) (i : Nat), LeO (P ws n job i) (P ws (n + 1) job i) := by
  induction n with
  | zero => intro job i r h; simp [P] at h
  | succ n ih =>
    intro job i
    cases job <;> (rw [P, P])
    case stmt =>
      generalize (if isW ws (i + 1) (bt [61]) = true then nameW ws i else none) = d
      cases d with
      | some t => exact (ih _ _).and fun _ _ _ => LeO.rfl' _
      | none =>
        cases simpleK ws i with
        | some k => exact (ih _ _).and fun _ _ _ => LeO.rfl' _
        | none =>
          refine LeO.ite ?_ (LeO.ite ?_ (LeO.ite ?_ (LeO.ite ?_ (ih _ _))))
          · cases nameW ws (i + 1) with
            | none => exact LeO.rfl' _
            | some t => exact LeO.ite ((ih _ _).and fun _ _ _ => LeO.rfl' _) (LeO.rfl' _)
          · exact (ih _ _).and fun _ _ _ => (ih _ _).and fun _ _ _ => LeO.ite ((ih _ _).and fun _ _ _ => LeO.rfl' _) (LeO.rfl' _)
          · exact (ih _ _).and fun _ _ _ => (ih _ _).and fun _ _ _ => LeO.rfl' _
          · refine (ih _ _).and fun _ _ j => LeO.ite ?_ (LeO.rfl' _)
            cases nameW ws (j + 1) with
            | none => exact LeO.rfl' _
            | some t => exact (ih _ _).and fun _ _ _ => LeO.rfl' _
    case binL lv x b =>
      cases opW ws i lv with
      | none => exact LeO.rfl' _
      | some t => exact (ih _ _).and fun _ _ _ => LeO.ite (LeO.rfl' _) (ih _ _)
    case called k =>
      cases nameW ws i with
      | none => exact LeO.rfl' _
      | some t => exact LeO.ite ((ih _ _).and fun _ _ _ => LeO.rfl' _) (LeO.rfl' _)
    case atom =>
      cases numW ws i with
      | some t => exact LeO.rfl' _
      | none =>
        cases nameW ws i with
        | some t => exact LeO.ite (ih _ _) (LeO.rfl' _)
        | none =>
          refine LeO.ite (ih _ _) (LeO.ite (ih _ _) (LeO.ite ((ih _ _).and fun _ _ _ => LeO.rfl' _) (LeO.ite ((ih _ _).and fun _ _ _ => LeO.rfl' _) (LeO.ite (LeO.rfl' _) (LeO.ite (LeO.rfl' _) (LeO.ite ?_ (LeO.rfl' _)))))))
          cases namesW ws (i + 1) with
          | inr j => exact LeO.rfl' _
          | inl p => exact (ih _ _).and fun _ _ _ => LeO.rfl' _
    case block => exact LeO.ite (ih _ _) (LeO.rfl' _)
    case blockL => exact LeO.ite (LeO.rfl' _) ((ih _ _).and fun _ _ _ => ih _ _)
    case other => exact (ih _ _).and fun _ _ _ => LeO.ite ((ih _ _).and fun _ _ _ => LeO.rfl' _) (LeO.rfl' _)
    case expr => exact (ih _ _).and fun _ _ _ => LeO.rfl' _
    case bin => exact LeO.ite (ih _ _) ((ih _ _).and fun _ _ _ => ih _ _)
    case unary => exact LeO.ite ((ih _ _).and fun _ _ _ => LeO.rfl' _) (LeO.ite ((ih _ _).and fun _ _ _ => LeO.rfl' _) (ih _ _))
    case args => exact LeO.ite (LeO.rfl' _) ((ih _ _).and fun _ _ _ => ih _ _)
    case argsL => exact LeO.ite ((ih _ _).and fun _ _ _ => ih _ _) (LeO.rfl' _)
    case pfx => exact (ih _ _).and fun _ _ _ => ih _ _
    case postL => exact LeO.ite ((ih _ _).and fun _ _ _ => LeO.ite (ih _ _) (LeO.rfl' _)) (LeO.ite (LeO.ite ((ih _ _).and fun _ _ _ => ih _ _) (LeO.rfl' _)) (LeO.rfl' _))
    case unit => exact LeO.ite ((ih _ _).and fun _ _ _ => LeO.rfl' _) (LeO.rfl' _)
theorem P_mono {ws : List Wd} {n m : Nat} {job : Job} {i : Nat} {r : Out} (h : P ws n job i = some r) (hn : n ≤ m) : P ws m job i = some r := by
  induction m with
  | zero =>
    obtain rfl : n = 0 := by omega
    exact h
  | succ m ih =>
    rcases Nat.lt_or_ge n (m + 1) with h1 | h1
    · exact P_step ws m job i r (ih (by omega))
    · obtain rfl : n = m + 1 := by omega
      exact h

def adv : Job → Nat
 | .binL _ _ _ => 0
 | .postL _ _ => 0
 | _ => 1
def rank : Job → Nat
 | .called _ => 1
 | .unit => 1
 | .atom => 2
 | .pfx => 3
 | .unary => 4
 | .bin lv => 10 - lv
 | .expr => 11
 | .other => 11
 | .args => 12
 | .stmt => 12
 | .blockL _ => 13
 | _ => 1
def Fine : Job → Prop
 | .bin lv => lv ≤ 5
 | .binL lv _ _ => lv ≤ 4
 | _ => True
def Good (ws : List Wd) (a i : Nat) (o : Option Out) : Prop :=
 match o with
 | none => False
 | some (.bad j) => i ≤ j ∧ j ≤ ws.length
 | some (.ok l b j) => i + a ≤ j ∧ j ≤ ws.length
theorem Good.and {ws : List Wd} {a a' i i' : Nat} {o : Option Out} {f : List Nd → Bool → Nat → Option Out} (h : Good ws a' i' o) (hi : i ≤ i') (hf : ∀ l b j, i' + a' ≤ j → j ≤ ws.length → Good ws a i (f l b j)) : Good ws a i (andW o f) := by
 match o, h with
 | some (.bad j), h => exact ⟨Nat.le_trans hi h.1, h.2⟩
 | some (.ok l b j), h => exact hf l b j h.1 h.2
theorem Good.le {ws : List Wd} {a a' i i' : Nat} {o : Option Out} (h : Good ws a' i' o) (hi : i ≤ i') (ha : i + a ≤ i' + a') : Good ws a i o := by
 match o, h with
 | some (.bad j), h => exact ⟨Nat.le_trans hi h.1, h.2⟩
 | some (.ok l b j), h => exact ⟨Nat.le_trans ha h.1, h.2⟩
theorem Good.ite {ws : List Wd} {a i : Nat} {x y : Option Out} {c : Prop} [Decidable c] (h1 : c → Good ws a i x) (h2 : ¬ c → Good ws a i y) : Good ws a i (if c then x else y) := by
 split
 ·exact h1 ‹_›
 ·exact h2 ‹_›
section
variable {ws : List Wd} {i j : Nat} {s : ByteArray}
theorem isW_lt (h : isW ws i s = true) : i < ws.length := by
 unfold isW at h
 rcases Nat.lt_or_ge i ws.length with h1 | h1
 ·exact h1
 ·rw [List.getElem?_eq_none h1] at h
  cases h
theorem nameW_lt {t : ByteArray} (h : nameW ws i = some t) : i < ws.length := by
 unfold nameW at h
 rcases Nat.lt_or_ge i ws.length with h1 | h1
 ·exact h1
 ·rw [List.getElem?_eq_none h1] at h
  cases h
theorem numW_lt {t : ByteArray} (h : numW ws i = some t) : i < ws.length := by
 unfold numW at h
 rcases Nat.lt_or_ge i ws.length with h1 | h1
 ·exact h1
 ·rw [List.getElem?_eq_none h1] at h
  cases h
theorem simpleK_lt {k : Int} (h : simpleK ws i = some k) : i < ws.length := by
 unfold simpleK at h
 rcases Nat.lt_or_ge i ws.length with h1 | h1
 ·exact h1
 ·rw [List.getElem?_eq_none h1] at h
  cases h
theorem opW_lt {lv : Nat} {t : ByteArray} (h : opW ws i lv = some t) : i < ws.length := by
 unfold opW at h
 rcases Nat.lt_or_ge i ws.length with h1 | h1
 ·exact h1
 ·rw [List.getElem?_eq_none h1] at h
  cases h
theorem nmL_good : ∀ (l : List Wd) (acc : List ByteArray) (i : Nat), match nmL l acc i with | .inl (_, j) => i + 1 ≤ j ∧ j ≤ i + l.length | .inr j => i ≤ j ∧ j ≤ i + l.length
  | [], acc, i => by simp [nmL]
  | w :: [], acc, i => by
    rw [nmL]
    split <;> rename_i x p h
    · split at h
      · cases h
      · split at h
        · cases h
          simp
        · cases h
    · split at h
      · cases h
        simp
      · split at h
        · cases h
        · cases h
          simp
  | w :: v :: l, acc, i => by
    rw [nmL]
    have ih := nmL_good l (acc ++ [v.text]) (i + 2)
    split <;> rename_i x p h
    · split at h
      · split at h
        · rw [h] at ih
          simp only [List.length_cons] at ih ⊢
          omega
        · cases h
      · split at h
        · cases h
          simp
        · cases h
    · split at h
      · split at h
        · rw [h] at ih
          simp only [List.length_cons] at ih ⊢
          omega
        · cases h
          simp
      · split at h
        · cases h
        · cases h
          simp
theorem namesW_good (hi : i ≤ ws.length) : match namesW ws i with | .inl (_, j) => i + 1 ≤ j ∧ j ≤ ws.length | .inr j => i ≤ j ∧ j ≤ ws.length := by
  unfold namesW
  by_cases h1 : isW ws i (bt [40]) = true
  · have l1 := isW_lt h1
    rw [if_pos h1]
    by_cases h2 : isW ws (i + 1) (bt [41]) = true
    · have l2 := isW_lt h2
      rw [if_pos h2]
      exact ⟨by omega, by omega⟩
    · rw [if_neg h2]
      cases h3 : nameW ws (i + 1) with
      | none => exact ⟨by omega, by omega⟩
      | some t =>
        have l3 := nameW_lt h3
        have h4 := nmL_good (ws.drop (i + 2)) [t] (i + 2)
        rw [List.length_drop] at h4
        simp only
        split <;> rename_i x h5 <;> rw [h5] at h4 <;> simp only at h4 <;> omega
  · rw [if_neg h1]
    exact ⟨Nat.le_refl _, hi⟩
end
theorem Good.ended {ws : List Wd} {i j : Nat} {x : Nd} (h : i ≤ j) (hj : j ≤ ws.length) : Good ws 1 i (endedW ws x j) := by
 unfold endedW
 refine Good.ite (fun h1 => ?_) fun _ => ⟨h, hj⟩
 have := isW_lt h1
 exact ⟨by omega, by omega⟩
set_option maxHeartbeats 1000000 in
theorem P_good (ws : List Wd) (n : Nat) : ∀ (job : Job) (i : Nat), Fine job → i ≤ ws.length → 20 * (ws.length - i) + rank job ≤ n → Good ws (adv job) i (P ws n job i) := by
  induction n with
  | zero =>
    intro job i hf hi hn
    have : 0 < rank job := by cases job <;> simp only [rank, Fine] at * <;> omega
    omega
  | succ n ih =>
    intro job i hf hi hn
    cases job <;> (rw [P]; simp only [adv, rank, Fine] at *)
    case block =>
      refine Good.ite (fun h => ?_) fun _ => ⟨Nat.le_refl _, hi⟩
      have := isW_lt h
      exact (ih (.blockL []) (i + 1) trivial (by omega) (by simp only [rank]; omega)).le (by omega) (by simp only [adv]; omega)
    case blockL acc =>
      refine Good.ite (fun h => ?_) fun _ => ?_
      · have := isW_lt h
        exact ⟨by omega, by omega⟩
      · refine (ih .stmt i trivial hi (by simp only [rank]; omega)).and (Nat.le_refl _) fun l b j h1 h2 => ?_
        simp only [adv] at h1
        exact (ih (.blockL _) j trivial h2 (by simp only [rank]; omega)).le (by omega) (by simp only [adv]; omega)
    case stmt =>
      have hd : ∀ t, (if isW ws (i + 1) (bt [61]) = true then nameW ws i else none) = some t → i + 1 < ws.length := by
        intro t h
        split at h
        · exact isW_lt ‹_›
        · cases h
      revert hd
      generalize (if isW ws (i + 1) (bt [61]) = true then nameW ws i else none) = d
      intro hd
      cases d with
      | some t =>
        have := hd t rfl
        exact (ih .expr (i + 2) trivial (by omega) (by simp only [rank]; omega)).and (by omega) fun l b j h1 h2 => Good.ended (by simp only [adv] at h1; omega) h2
      | none =>
        cases hs : simpleK ws i with
        | some k =>
          have := simpleK_lt hs
          exact (ih .expr (i + 1) trivial (by omega) (by simp only [rank]; omega)).and (by omega) fun l b j h1 h2 => Good.ended (by simp only [adv] at h1; omega) h2
        | none =>
          refine Good.ite (fun h => ?_) fun _ => Good.ite (fun h => ?_) fun _ => Good.ite (fun h => ?_) fun _ => Good.ite (fun h => ?_) fun _ => ?_
          · have := isW_lt h
            cases hm : nameW ws (i + 1) with
            | none => exact ⟨by omega, by omega⟩
            | some t =>
              have := nameW_lt hm
              refine Good.ite (fun h => ?_) fun _ => ⟨by omega, by omega⟩
              have := isW_lt h
              exact (ih .expr (i + 3) trivial (by omega) (by simp only [rank]; omega)).and (by omega) fun l b j h1 h2 => Good.ended (by simp only [adv] at h1; omega) h2
          · have := isW_lt h
            refine (ih .expr (i + 1) trivial (by omega) (by simp only [rank]; omega)).and (by omega) fun l b j h1 h2 => ?_
            simp only [adv] at h1
            refine (ih .block j trivial h2 (by simp only [rank]; omega)).and (by omega) fun l b j2 h3 h4 => ?_
            simp only [adv] at h3
            refine Good.ite (fun h => ?_) fun _ => ⟨by omega, h4⟩
            have := isW_lt h
            exact (ih .block (j2 + 1) trivial (by omega) (by simp only [rank]; omega)).and (by omega) fun l b j3 h5 h6 => ⟨by simp only [adv] at h5; omega, h6⟩
          · have := isW_lt h
            refine (ih .expr (i + 1) trivial (by omega) (by simp only [rank]; omega)).and (by omega) fun l b j h1 h2 => ?_
            simp only [adv] at h1
            exact (ih .block j trivial h2 (by simp only [rank]; omega)).and (by omega) fun l b j2 h3 h4 => ⟨by simp only [adv] at h3; omega, h4⟩
          · have := isW_lt h
            refine (ih .block (i + 1) trivial (by omega) (by simp only [rank]; omega)).and (by omega) fun l b j h1 h2 => ?_
            simp only [adv] at h1
            refine Good.ite (fun h => ?_) fun _ => ⟨by omega, h2⟩
            have := isW_lt h
            cases hm : nameW ws (j + 1) with
            | none => exact ⟨by omega, by omega⟩
            | some t =>
              have := nameW_lt hm
              exact (ih .block (j + 2) trivial (by omega) (by simp only [rank]; omega)).and (by omega) fun l b j2 h3 h4 => ⟨by simp only [adv] at h3; omega, h4⟩
          · exact (ih .other i trivial hi (by simp only [rank]; omega)).le (Nat.le_refl _) (by simp only [adv]; omega)
    case other =>
      refine (ih (.bin 0) i (by simp only [Fine]; omega) hi (by simp only [rank]; omega)).and (Nat.le_refl _) fun l b j h1 h2 => ?_
      simp only [adv] at h1
      refine Good.ite (fun h => ?_) fun _ => Good.ended (by omega) h2
      have := isW_lt (i := j) (s := bt [61]) (by simp only [Bool.and_eq_true] at h; exact h.2)
      exact (ih .expr (j + 1) trivial (by omega) (by simp only [rank]; omega)).and (by omega) fun l b j2 h3 h4 => Good.ended (by simp only [adv] at h3; omega) h4
    case expr => exact (ih (.bin 0) i (by simp only [Fine]; omega) hi (by simp only [rank]; omega)).and (Nat.le_refl _) fun l b j h1 h2 => ⟨h1, h2⟩
    case bin lv =>
      refine Good.ite (fun h => ?_) fun h => ?_
      · exact ih .unary i trivial hi (by simp only [rank]; omega)
      · refine (ih (.bin (lv + 1)) i (by simp only [Fine]; omega) hi (by simp only [rank]; omega)).and (Nat.le_refl _) fun l b j h1 h2 => ?_
        simp only [adv] at h1
        exact (ih (.binL lv _ _) j (by simp only [Fine]; omega) h2 (by simp only [rank]; omega)).le (by omega) (by simp only [adv]; omega)
    case binL lv x b =>
      cases ho : opW ws i lv with
      | none => exact ⟨by omega, hi⟩
      | some t =>
        have := opW_lt ho
        refine (ih (.bin (lv + 1)) (i + 1) (by simp only [Fine]; omega) (by omega) (by simp only [rank]; omega)).and (by omega) fun l b j h1 h2 => ?_
        simp only [adv] at h1
        refine Good.ite (fun h => ⟨by omega, h2⟩) fun h => ?_
        exact (ih (.binL lv _ _) j (by simp only [Fine]; omega) h2 (by simp only [rank]; omega)).le (by omega) (by simp only [adv]; omega)
    case unary =>
      refine Good.ite (fun h => ?_) fun _ => Good.ite (fun h => ?_) fun _ => ?_
      · have := isW_lt h
        exact (ih .unary (i + 1) trivial (by omega) (by simp only [rank]; omega)).and (by omega) fun l b j h1 h2 => ⟨by simp only [adv] at h1; omega, h2⟩
      · have := isW_lt h
        exact (ih .unary (i + 1) trivial (by omega) (by simp only [rank]; omega)).and (by omega) fun l b j h1 h2 => ⟨by simp only [adv] at h1; omega, h2⟩
      · exact ih .pfx i trivial hi (by simp only [rank]; omega)
    case args =>
      refine Good.ite (fun h => ?_) fun _ => ?_
      · have := isW_lt h
        exact ⟨by omega, by omega⟩
      · refine (ih .expr i trivial hi (by simp only [rank]; omega)).and (Nat.le_refl _) fun l b j h1 h2 => ?_
        simp only [adv] at h1
        exact (ih (.argsL _) j trivial h2 (by simp only [rank]; omega)).le (by omega) (by simp only [adv]; omega)
    case argsL acc =>
      refine Good.ite (fun h => ?_) fun _ => Good.ite (fun h => ?_) fun _ => ⟨Nat.le_refl _, hi⟩
      · have := isW_lt h
        refine (ih .expr (i + 1) trivial (by omega) (by simp only [rank]; omega)).and (by omega) fun l b j h1 h2 => ?_
        simp only [adv] at h1
        exact (ih (.argsL _) j trivial h2 (by simp only [rank]; omega)).le (by omega) (by simp only [adv]; omega)
      · have := isW_lt h
        exact ⟨by omega, by omega⟩
    case pfx =>
      refine (ih .atom i trivial hi (by simp only [rank]; omega)).and (Nat.le_refl _) fun l b j h1 h2 => ?_
      simp only [adv] at h1
      exact (ih (.postL _ _) j trivial h2 (by simp only [rank]; omega)).le (by omega) (by simp only [adv]; omega)
    case postL x b =>
      refine Good.ite (fun h => ?_) fun _ => Good.ite (fun h => ?_) fun _ => ⟨by omega, hi⟩
      · have := isW_lt h
        refine (ih .expr (i + 1) trivial (by omega) (by simp only [rank]; omega)).and (by omega) fun l b j h1 h2 => ?_
        simp only [adv] at h1
        refine Good.ite (fun h => ?_) fun _ => ⟨by omega, h2⟩
        have := isW_lt h
        exact (ih (.postL _ _) (j + 1) trivial (by omega) (by simp only [rank]; omega)).le (by omega) (by simp only [adv]; omega)
      · have := isW_lt h
        refine Good.ite (fun h => ?_) fun _ => ⟨by omega, by omega⟩
        have := isW_lt h
        refine (ih .args (i + 2) trivial (by omega) (by simp only [rank]; omega)).and (by omega) fun l b j h1 h2 => ?_
        simp only [adv] at h1
        exact (ih (.postL _ _) j trivial h2 (by simp only [rank]; omega)).le (by omega) (by simp only [adv]; omega)
    case called k =>
      cases hm : nameW ws i with
      | none => exact ⟨Nat.le_refl _, hi⟩
      | some t =>
        have := nameW_lt hm
        refine Good.ite (fun h => ?_) fun _ => ⟨by omega, by omega⟩
        have := isW_lt h
        exact (ih .args (i + 2) trivial (by omega) (by simp only [rank]; omega)).and (by omega) fun l b j h1 h2 => ⟨by simp only [adv] at h1; omega, h2⟩
    case unit =>
      refine Good.ite (fun h => ?_) fun _ => ⟨Nat.le_refl _, hi⟩
      have := isW_lt h
      refine (ih .expr (i + 1) trivial (by omega) (by simp only [rank]; omega)).and (by omega) fun l b j h1 h2 => ?_
      simp only [adv] at h1
      refine Good.ite (fun h => ?_) fun _ => ⟨by omega, h2⟩
      have := isW_lt h
      exact ⟨by omega, by omega⟩
    case atom =>
      cases hnum : numW ws i with
      | some t =>
        have := numW_lt hnum
        exact ⟨by omega, by omega⟩
      | none =>
        cases hnam : nameW ws i with
        | some t =>
          have := nameW_lt hnam
          refine Good.ite (fun h => ?_) fun _ => ⟨by omega, by omega⟩
          exact (ih (.called 5) i trivial hi (by simp only [rank]; omega)).le (Nat.le_refl _) (by simp only [adv]; omega)
        | none =>
          refine Good.ite (fun h => ?_) fun _ => Good.ite (fun h => ?_) fun _ => Good.ite (fun h => ?_) fun _ => Good.ite (fun h => ?_) fun _ => Good.ite (fun h => ?_) fun _ => Good.ite (fun h => ?_) fun _ => Good.ite (fun h => ?_) fun _ => ⟨Nat.le_refl _, hi⟩
          · exact ih .unit i trivial hi (by simp only [rank]; omega)
          · have := isW_lt h
            exact (ih (.called 13) (i + 1) trivial (by omega) (by simp only [rank]; omega)).le (by omega) (by simp only [adv]; omega)
          · have := isW_lt h
            exact (ih .unit (i + 1) trivial (by omega) (by simp only [rank]; omega)).and (by omega) fun l b j h1 h2 => ⟨by simp only [adv] at h1; omega, h2⟩
          · have := isW_lt h
            exact (ih .unit (i + 1) trivial (by omega) (by simp only [rank]; omega)).and (by omega) fun l b j h1 h2 => ⟨by simp only [adv] at h1; omega, h2⟩
          · have := isW_lt h
            exact ⟨by omega, by omega⟩
          · have := isW_lt h
            exact ⟨by omega, by omega⟩
          · have := isW_lt h
            have hg := namesW_good (ws := ws) (i := i + 1) (by omega)
            cases hnm : namesW ws (i + 1) with
            | inr j =>
              rw [hnm] at hg
              exact ⟨by have := hg.1; omega, hg.2⟩
            | inl p =>
              rw [hnm] at hg
              have h1 := hg.1
              have h2 := hg.2
              exact (ih .block p.2 trivial h2 (by simp only [rank]; omega)).and (by omega) fun l b j h3 h4 => ⟨by simp only [adv] at h3; omega, h4⟩
end

/- append of cells onto a slice of the call's own, whatever the element's size. -/
section
open Go.RowKit
set_option linter.unusedSimpArgs false
def Cells (w : World) (A : Option Addr) (ys : List Value) : Prop := 0 < ys.length → ∃ b off, A = some ⟨b, off, none⟩ ∧ ∀ j u, ys[j]? = some u → w.cell? ⟨b, off + j, none⟩ = some u
theorem Cells.fr {S : List Nat} {w w' : World} {A : Option Addr} {ys : List Value} (h : Cells w A ys) (hf : Fr S w w') (hn : ∀ a, A = some a → a.block ∉ S) : Cells w' A ys := fun h0 => by
 obtain ⟨b, off, rfl, hc⟩ := h h0
 exact ⟨b, off, rfl, fun j u hu => hf.cell (hc j u hu) (show b ∉ S from hn ⟨b, off, none⟩ rfl)⟩
theorem Cells.fr0 {w w' : World} {A : Option Addr} {ys : List Value} (h : Cells w A ys) (hf : Fr [] w w') : Cells w' A ys := h.fr hf (by simp)
theorem Cells.of_own {w : World} {base sz n c : Nat} {e : TypeId} {A : Option Addr} {ys : List Value} (h : w.ownsRow base e sz (.slice A n c) n ys) : Cells w A ys := fun h0 => by
 have hl := h.1
 rcases h.2 with ⟨he, hz⟩ | ⟨g, cap, cur, he, _, hh, _, _, hsz, htk⟩
 ·subst hz
  simp at hl
  subst hl
  simp at h0
 ·injection he with e1 e2 e3
  subst e1 e3
  refine ⟨g, 0, rfl, fun j u hu => ?_⟩
  have : cur[j]? = some u := by
   rw [← htk, List.getElem?_take] at hu
   split at hu
   ·simpa using hu
   ·cases hu
  rw [Nat.zero_add, cell_of_row w g j cur e (0, 0) hh, this]
section
variable {P : Program} {w : World}
theorem run_append_g {t ty e : TypeId} {z : Value} {bytes sz base n : Nat} (E : Elem P t e z sz bytes) {v : Value} {xs : List Value} (hown : w.ownsRow base e sz v n xs)
  {A : Option Addr} {m c : Nat} {ys : List Value} (hr : Cells w A ys) (hlen : ys.length = m * sz) (hmc : m ≤ c) (h1 : ∀ u ∈ ys, u.oneCell' = true)
  (hb : (n + m) * bytes ≤ 140737488355328) (hbase : base ≤ w.heap.size) :
  ∃ A' c' w', (Builtin.append_ #[t, t] ty #[v, .slice A m c]).run P w = .ok (.slice A' (n + m) c') w' ∧ w'.ownsRow base e sz (.slice A' (n + m) c') (n + m) (xs ++ ys) ∧
   w.grownBy w' v.ownBlock ∧ ((Value.slice A' (n + m) c').ownBlock = v.ownBlock ∨ (Value.slice A' (n + m) c').ownBlock = some w.heap.size) := by
 obtain ⟨i, hi, hz, hsz, hby⟩ := info_parts E.inf
 rcases Nat.eq_zero_or_pos m with h0 | h0
 ·subst h0
  have hn : ys = [] := List.eq_nil_of_length_eq_zero (by omega)
  subst hn
  obtain ⟨A', c', rfl⟩ := own_form hown
  refine ⟨A', c', w, ?_, by simpa using hown, World.grownBy.refl w _, .inl rfl⟩
  rcases A with _ | ad
  ·rcases hown.2 with ⟨he, hz0⟩ | ⟨g, cap, cur, he, _, _, hnc, _⟩
   ·injection he with e1 e2 e3
    subst e1 e3
    simp [Builtin.append_, run_underlying E.und, sizeOf, typeInfo, hi, Builtin.lenOf, Builtin.firstCells, hz0]
   ·injection he with e1 e2 e3
    subst e1 e3
    simp [Builtin.append_, run_underlying E.und, sizeOf, typeInfo, hi, Builtin.lenOf, Builtin.firstCells, hnc, storeCells]
  ·rcases hown.2 with ⟨he, hz0⟩ | ⟨g, cap, cur, he, _, _, hnc, _⟩
   ·injection he with e1 e2 e3
    subst e1 e3
    simp [Builtin.append_, run_underlying E.und, sizeOf, typeInfo, hi, Builtin.lenOf, Builtin.firstCells, hz0, loadCells, loadCellsFrom]
   ·injection he with e1 e2 e3
    subst e1 e3
    simp [Builtin.append_, run_underlying E.und, sizeOf, typeInfo, hi, Builtin.lenOf, Builtin.firstCells, hnc, storeCells, loadCells, loadCellsFrom]
 ·have hpos : 0 < ys.length := by rw [hlen]; exact Nat.mul_pos h0 E.pos
  obtain ⟨b, off, rfl, hc⟩ := hr hpos
  have hm : n + m ≤ maxLen := by
   have hh : (n + m) * 1 ≤ (n + m) * bytes := Nat.mul_le_mul_left _ E.byt
   unfold maxLen
   omega
  obtain ⟨v', w', hrun, h2, h3, _, h5⟩ := run_append_own_at (P := P) w base t ty e i z sz bytes E.und hi hz hsz hby E.one E.pos v n xs hown ⟨b, off, none⟩ m c ys hlen
   (fun j u hu => by
    rw [Addr.add_lit]
    exact hc j u hu) h1 hm hb hbase
  obtain ⟨A', c', rfl⟩ := own_form h2
  exact ⟨A', c', w', hrun, h2, h3, h5⟩
theorem wpList_append_g {ops : Array Oper} {rest : List Oper} {o : Oper} {a : Act} {Q : Exit → Act → World → Prop} (hgd : o.guard = none) (s x : Operand) (t : TypeId)
  (ho : o.op = .call { callee := .builtin .append, args := #[s, x], argTypes := #[t, t] })
  {e : TypeId} {z : Value} {bytes sz base n : Nat} (E : Elem P t e z sz bytes) (v : Value) (xs : List Value) (hs : a.eval s = v) (hown : w.ownsRow base e sz v n xs)
  (A : Option Addr) (m c : Nat) (ys : List Value) (hx : a.eval x = .slice A m c) (hr : Cells w A ys) (hlen : ys.length = m * sz) (hmc : m ≤ c) (h1 : ∀ u ∈ ys, u.oneCell' = true)
  (hb : (n + m) * bytes ≤ 140737488355328) (hbase : base ≤ w.heap.size)
  (h : ∀ A' c' w', w'.ownsRow base e sz (.slice A' (n + m) c') (n + m) (xs ++ ys) → w.grownBy w' v.ownBlock →
   ((Value.slice A' (n + m) c').ownBlock = v.ownBlock ∨ (Value.slice A' (n + m) c').ownBlock = some w.heap.size) → wpList P ops Q rest (a.put o.dst (.slice A' (n + m) c')) w') :
  wpList P ops Q (o :: rest) a w := by
 refine wpList_plain hgd fun K hK => ?_
 obtain ⟨A', c', w', hrun, h2, h3, h5⟩ := run_append_g (P := P) (ty := o.type) E hown hr hlen hmc h1 hb hbase
 unfold Oper.wp execOp
 simp only [ho, resolve, invoke, builtin, Sem.run_bind, Sem.run_pure, Result.andThen_ok, List.map_toArray, List.map_cons, List.map_nil, hs, hx, hrun]
 exact hK _ _ (h A' c' w' h2 h3 h5)
theorem step_append_g {ops : Array Oper} {o : Oper} {a : Act} {K : Act → World → Prop} {Q : Exit → Act → World → Prop} {F : Prop} (hgd : o.guard = none) (s x : Operand) (t : TypeId)
  (ho : o.op = .call { callee := .builtin .append, args := #[s, x], argTypes := #[t, t] })
  {e : TypeId} {z : Value} {bytes sz base n : Nat} (E : Elem P t e z sz bytes) (v : Value) (xs : List Value) (hs : a.eval s = v) (hown : w.ownsRow base e sz v n xs)
  (A : Option Addr) (m c : Nat) (ys : List Value) (hx : a.eval x = .slice A m c) (hr : Cells w A ys) (hlen : ys.length = m * sz) (hmc : m ≤ c) (h1 : ∀ u ∈ ys, u.oneCell' = true)
  (hb : (n + m) * bytes ≤ 140737488355328) (hbase : base ≤ w.heap.size)
  (h : ∀ A' c' w', w'.ownsRow base e sz (.slice A' (n + m) c') (n + m) (xs ++ ys) → w.grownBy w' v.ownBlock →
   ((Value.slice A' (n + m) c').ownBlock = v.ownBlock ∨ (Value.slice A' (n + m) c').ownBlock = some w.heap.size) → K (a.put o.dst (.slice A' (n + m) c')) w') :
  if Region.wanted o (yielded ops a.tmps) = true then Oper.wp P o a w K Q else F := by
 have hw : Region.wanted o (yielded ops a.tmps) = true := by simp [Region.wanted, hgd]
 rw [if_pos hw]
 obtain ⟨A', c', w', hrun, h2, h3, h5⟩ := run_append_g (P := P) (ty := o.type) E hown hr hlen hmc h1 hb hbase
 unfold Oper.wp execOp
 simp only [ho, resolve, invoke, builtin, Sem.run_bind, Sem.run_pure, Result.andThen_ok, List.map_toArray, List.map_cons, List.map_nil, hs, hx, hrun]
 exact h A' c' w' h2 h3 h5
end
end

/- Where a part of the text ends with an index, its node has two subs: plain. -/
section
open Go.RowKit
set_option linter.unusedSimpArgs false
def TwoOk : Job → Prop
 | .binL _ x b => b = true → x.subs.length = 2
 | .postL x b => b = true → x.subs.length = 2
 | .bin _ => True
 | .unary => True
 | .pfx => True
 | _ => False
theorem andW_ok {o : Option Out} {f : List Nd → Bool → Nat → Option Out} {l : List Nd} {b : Bool} {j : Nat} (h : andW o f = some (.ok l b j)) : ∃ l' b' k, o = some (.ok l' b' k) ∧ f l' b' k = some (.ok l b j) := by
  match o, h with
  | none, h => cases h
  | some (.bad k), h =>
    have h : some (Out.bad k) = some (.ok l b j) := h
    injection h with h
    cases h
  | some (.ok l' b' k), h => exact ⟨l', b', k, rfl, h⟩
theorem P_two (ws : List Wd) : ∀ (n : Nat) (job : Job) (i : Nat) (l : List Nd) (j : Nat), TwoOk job → P ws n job i = some (.ok l true j) → (hd1 l).subs.length = 2
  | 0, job, i, l, j, _, h => by simp [P] at h
  | n + 1, job, i, l, j, ht, h => by
    have ih := P_two ws n
    cases job with
    | bin lv =>
      rw [P] at h
      split at h
      · exact ih .unary i l j trivial h
      · obtain ⟨l', b', k, h1, h2⟩ := andW_ok h
        exact ih (.binL lv (hd1 l') b') k l j (fun hb => by subst hb; exact ih (.bin (lv + 1)) i l' k trivial h1) h2
    | binL lv x b =>
      rw [P] at h
      cases ho : opW ws i lv with
      | none =>
        rw [ho] at h
        injection h with h
        injection h with h1 h2 h3
        subst h1 h2
        exact ht rfl
      | some t =>
        rw [ho] at h
        obtain ⟨l', b', k, h1, h2⟩ := andW_ok h
        split at h2
        · injection h2 with h2
          injection h2 with _ h2
          cases h2
        · exact ih (.binL lv (ndk 4 t [x, hd1 l']) false) k l j (fun hb => by cases hb) h2
    | unary =>
      rw [P] at h
      split at h
      · obtain ⟨l', b', k, h1, h2⟩ := andW_ok h
        injection h2 with h2
        injection h2 with _ h2
        cases h2
      · split at h
        · obtain ⟨l', b', k, h1, h2⟩ := andW_ok h
          injection h2 with h2
          injection h2 with _ h2
          cases h2
        · exact ih .pfx i l j trivial h
    | pfx =>
      rw [P] at h
      obtain ⟨l', b', k, h1, h2⟩ := andW_ok h
      exact ih (.postL (hd1 l') false) k l j (fun hb => by cases hb) h2
    | postL x b =>
      rw [P] at h
      split at h
      · obtain ⟨l', b', k, h1, h2⟩ := andW_ok h
        split at h2
        · exact ih (.postL (ndk 8 (bt []) [x, hd1 l']) true) (k + 1) l j (fun _ => rfl) h2
        · injection h2 with h2
          cases h2
      · split at h
        · split at h
          · obtain ⟨l', b', k, h1, h2⟩ := andW_ok h
            exact ih (.postL (ndk 6 (bt []) (x :: l')) false) k l j (fun hb => by cases hb) h2
          · injection h with h
            cases h
        · injection h with h
          injection h with h1 h2 h3
          subst h1 h2
          exact ht rfl
    | _ => exact absurd ht id
end

end Go.Proofs.YtchldahkcpbgcaaGreatDoor
