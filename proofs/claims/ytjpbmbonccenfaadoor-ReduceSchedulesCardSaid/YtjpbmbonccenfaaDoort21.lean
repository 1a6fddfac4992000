/- Texts of this seat, one behind the other: Base. -/
import Derived.Below
import Derived.Laws.OwnMore
import Derived.Maps.AppendAt
import Derived.Deep.AppendLies
import Derived.Deep.Draws
import Derived.Lib.Hide
import Derived.WalkKit
import Derived.ProofKit
import Derived.OwnWalk
import Derived.RegionTactic
/- Words for memory that all texts of this seat use: frames between two worlds, slices that read as lists. -/
namespace Go.Proofs.YtjpbmbonccenfaaDoor
open Go.RowKit
set_option linter.unusedVariables false

@[go_sem] theorem setCell_drewN (w : World) (n : Nat) (a : Addr) (v : Value) : (w.drewN n).setCell a v = (w.setCell a v).drewN n := rfl
@[go_sem] theorem alloc_drewN (w : World) (n : Nat) (o : Obj) : (w.drewN n).alloc o = (w.alloc o).drewN n := rfl

/-- w' is w, but for the blocks in S and for new blocks. -/
structure Fr (S : List Nat) (w w' : World) : Prop where
  os : w'.os = w.os
  tape : w'.tape = w.tape
  output : w'.output = w.output
  size : w.heap.size ≤ w'.heap.size
  block : ∀ k, k < w.heap.size → k ∉ S → w'.heap[k]? = w.heap[k]?

section
variable {S T : List Nat} {a b c w w' : World}
theorem Fr.refl (S : List Nat) (w : World) : Fr S w w := ⟨rfl, rfl, rfl, Nat.le_refl _, fun _ _ _ => rfl⟩
theorem Fr.trans2 (h : Fr S a b) (k : Fr T b c) (hT : ∀ x ∈ T, x ∈ S ∨ a.heap.size ≤ x) : Fr S a c :=
  ⟨k.os.trans h.os, k.tape.trans h.tape, k.output.trans h.output, Nat.le_trans h.size k.size, fun i hi hn =>
    (k.block i (Nat.lt_of_lt_of_le hi h.size) (fun hm => by rcases hT i hm with h1 | h1 <;> first | exact hn h1 | omega)).trans (h.block i hi hn)⟩
theorem Fr.trans (h : Fr S a b) (k : Fr S b c) : Fr S a c := h.trans2 k fun _ hx => .inl hx
theorem Fr.trans0 (h : Fr S a b) (k : Fr [] b c) : Fr S a c := h.trans2 k fun _ hx => by cases hx
theorem Fr.mono (h : Fr S a b) (hS : ∀ x ∈ S, x ∈ T) : Fr T a b := ⟨h.os, h.tape, h.output, h.size, fun i hi hn => h.block i hi fun hm => hn (hS i hm)⟩
theorem Fr.below (h : Fr [] w w') : Below w.heap.size w w' := ⟨h.os, h.tape, h.output, h.size, fun k hk => h.block k hk (by simp)⟩
theorem Fr.of_below (h : Below w.heap.size w w') : Fr S w w' := ⟨h.os, h.tape, h.output, h.size, fun k hk _ => h.block k hk⟩
theorem Fr.drew (h : Fr S a w) : Fr S a w.drew := ⟨h.os, h.tape, h.output, h.size, h.block⟩
theorem Fr.drewN (h : Fr S a w) (n : Nat) : Fr S a (w.drewN n) := ⟨h.os, h.tape, h.output, h.size, h.block⟩
theorem Fr.alloc (h : Fr S a w) (o : Obj) : Fr S a (w.alloc o) :=
  h.trans2 (T := []) ⟨rfl, rfl, rfl, by simp, fun k hk _ => Below.heap_alloc _ _ _ hk⟩ fun _ hx => by cases hx
theorem Fr.setCell (h : Fr S a w) {p : Addr} (hp : p.block ∈ S ∨ a.heap.size ≤ p.block) (u : Value) : Fr S a (w.setCell p u) :=
  h.trans2 (T := [p.block]) ⟨rfl, rfl, rfl, by simp, fun k _ hk => Below.heap_setCell _ _ _ _ (by simpa using hk)⟩ fun x hx => by
    obtain rfl : x = p.block := by simpa using hx
    exact hp
theorem Fr.grown (h : Fr S a w) {row : Option Nat} (hg : w.grownBy w' row) (hr : ∀ k, row = some k → k ∈ S ∨ a.heap.size ≤ k) : Fr S a w' :=
  h.trans2 (T := row.toList) ⟨hg.os, hg.tape, hg.output, hg.size, fun k hk hn => hg.block k hk (fun e => hn (by rw [← e]; simp))⟩ fun x hx => hr x (by cases row <;> simp_all)
theorem Fr.cell (h : Fr S w w') {p : Addr} {u : Value} (hc : w.cell? p = some u) (hp : p.block ∉ S) : w'.cell? p = some u :=
  (World.cell?_of_block (h.block p.block (World.block_lt_of_cell? w p hc) hp)).trans hc
theorem Fr.heap (h : Fr S w w') {k : Nat} {o : Obj} (hk : w.heap[k]? = some o) (hn : k ∉ S) : w'.heap[k]? = some o :=
  (h.block k (lt_of_block hk) hn).trans hk
end

/-- A slice with the address A, the length of xs and the capacity c reads in w as xs; enc says what a cell holds. -/
structure Rd {α : Type} (w : World) (enc : α → Value) (A : Option Addr) (c : Nat) (xs : List α) : Prop where
  le : xs.length ≤ c
  cap : c ≤ maxLen
  at0 : 0 < xs.length → ∃ b off, A = some ⟨b, off, none⟩ ∧ ∀ k x, xs[k]? = some x → w.cell? ⟨b, off + k, none⟩ = some (enc x)

section
variable {α : Type} {w w' : World} {enc : α → Value} {A : Option Addr} {c : Nat} {xs : List α} {S : List Nat} {b off : Nat}
theorem Rd.at_ (h : Rd w enc A c xs) {k : Nat} (hk : k < xs.length) : ∃ b off x, A = some ⟨b, off, none⟩ ∧ Hid (xs[k]? = some x) ∧ w.cell? ⟨b, off + k, none⟩ = some (enc x) := by
  obtain ⟨b, off, hA, hc⟩ := h.at0 (by omega)
  exact ⟨b, off, xs[k], hA, List.getElem?_eq_getElem hk, hc k _ (List.getElem?_eq_getElem hk)⟩
theorem Rd.bound (h : Rd w enc A c xs) : xs.length ≤ 9223372036854775807 := by
  have h1 := h.le
  have h2 := h.cap
  unfold maxLen at h2
  omega
theorem Rd.capBound (h : Rd w enc A c xs) : c ≤ 9223372036854775807 := by
  have h2 := h.cap
  unfold maxLen at h2
  omega
theorem Rd.nil_ (w : World) (enc : α → Value) : Rd w enc none 0 [] := ⟨Nat.le_refl _, by unfold maxLen; omega, fun h => by simp at h⟩
theorem Rd.drewN (h : Rd w enc A c xs) (n : Nat) : Rd (w.drewN n) enc A c xs := ⟨h.le, h.cap, h.at0⟩
theorem Rd.drew (h : Rd w enc A c xs) : Rd w.drew enc A c xs := ⟨h.le, h.cap, h.at0⟩
/-- It stays while the frame leaves its block alone. -/
theorem Rd.fr (h : Rd w enc A c xs) (hf : Fr S w w') (hn : 0 < xs.length → ∀ a, A = some a → a.block ∉ S) : Rd w' enc A c xs :=
  ⟨h.le, h.cap, fun h0 => by
    obtain ⟨b, off, hA, hc⟩ := h.at0 h0
    exact ⟨b, off, hA, fun k x hx => hf.cell (hc k x hx) (hn h0 ⟨b, off, none⟩ hA)⟩⟩
theorem Rd.fr0 (h : Rd w enc A c xs) (hf : Fr [] w w') : Rd w' enc A c xs := h.fr hf (by simp)
theorem Rd.setCell (h : Rd w enc A c xs) {p : Addr} (hn : 0 < xs.length → ∀ a, A = some a → a.block ≠ p.block) (u : Value) : Rd (w.setCell p u) enc A c xs :=
  h.fr ((Fr.refl [p.block] w).setCell (.inl (by simp)) u) (fun h0 a ha => by simpa using hn h0 a ha)
theorem Rd.setCell1 (h : Rd w enc (some ⟨b, off, none⟩) c xs) {p : Addr} (hn : b ≠ p.block) (u : Value) : Rd (w.setCell p u) enc (some ⟨b, off, none⟩) c xs :=
  h.setCell (fun _ a ha => by injection ha with ha; subst ha; exact hn) u
theorem Rd.lt (h : Rd w enc A c xs) (h0 : 0 < xs.length) (a : Addr) (ha : A = some a) : a.block < w.heap.size := by
  obtain ⟨b, off, rfl, hc⟩ := h.at0 h0
  injection ha with ha
  subst ha
  exact World.block_lt_of_cell? w _ (hc 0 xs[0] (by simp))
theorem Rd.alloc (h : Rd w enc A c xs) (o : Obj) : Rd (w.alloc o) enc A c xs := h.fr0 ((Fr.refl _ _).alloc o)
/-- What the call owns reads. -/
theorem Rd.of_own {base : Nat} {e : TypeId} {n : Nat} (h : w.ownsRow base e 1 (.slice A n c) n (xs.map enc)) : n = xs.length ∧ Rd w enc A c xs := by
  have hl : n = xs.length := by have := h.1; simp at this; omega
  subst hl
  refine ⟨rfl, ?_⟩
  rcases h.2 with ⟨he, h0⟩ | ⟨g, cap, cur, he, hb, hh, hnc, hcm, hsz, htk⟩
  · injection he with e1 e2 e3
    subst e1 e3
    exact ⟨by omega, by unfold maxLen; omega, fun h1 => by omega⟩
  · injection he with e1 e2 e3
    subst e1 e3
    exact ⟨hnc, hcm, fun _ => ⟨g, 0, rfl, fun k x hx => by
      have hk : k < xs.length := (List.getElem?_eq_some_iff.1 hx).1
      have := h.cellAt k (by omega)
      rw [Nat.zero_add, this]
      simp [hx]⟩⟩
end

/-- An owned slice, its value written out. -/
theorem own_form {w : World} {base : Nat} {e : TypeId} {v : Value} {n : Nat} {xs : List Value} {size : Nat} (h : w.ownsRow base e size v n xs) : ∃ A c, v = .slice A n c := by
  rcases h.2 with ⟨rfl, rfl⟩ | ⟨g, cap, _, rfl, _⟩
  · exact ⟨_, _, rfl⟩
  · exact ⟨_, _, rfl⟩

theorem own_drewN {w : World} {base : Nat} {e : TypeId} {v : Value} {n size : Nat} {xs : List Value} (h : w.ownsRow base e size v n xs) (k : Nat) : (w.drewN k).ownsRow base e size v n xs := h

/-- The call returns v; the world has drawn, nothing else. -/
def RetQ (w : World) (v : Value) (e : Ending) (w' : World) : Prop := e = .returned v ∧ ∃ n, w' = w.drewN n
/-- The call returns v; what was there is as it was. -/
def RetV (w : World) (v : Value) (e : Ending) (w' : World) : Prop := e = .returned v ∧ Fr [] w w'
/-- The call returns a slice of its own, that reads as xs. -/
def RetOwn (w : World) (t : TypeId) (xs : List Value) (e : Ending) (w' : World) : Prop :=
  ∃ A c, e = .returned (.slice A xs.length c) ∧ Fr [] w w' ∧ w'.ownsRow w.heap.size t 1 (.slice A xs.length c) xs.length xs
theorem RetQ.v {w : World} {v : Value} {e : Ending} {w' : World} (h : RetQ w v e w') : RetV w v e w' := by
  obtain ⟨rfl, n, rfl⟩ := h
  exact ⟨rfl, (Fr.refl _ _).drewN n⟩
theorem quiet_of {P : Program} {f : FuncId} {args : Array Value} {w : World} {n : Nat} {v : Value} (h : Calls P f args (w.drewN n) (RetQ (w.drewN n) v)) :
    Calls P f args (w.drewN n) fun e w'' => e = .returned v ∧ ∃ m, w'' = w.drewN m :=
  h.mono fun _ _ ⟨he, m, hm⟩ => ⟨he, n + m, by rw [hm, World.drewN_drewN]⟩
theorem quiet_add {P : Program} {f : FuncId} {args : Array Value} {w : World} {a n : Nat} {v : Value} (h : Calls P f args (w.drewN (a + n)) (RetQ (w.drewN (a + n)) v)) :
    Calls P f args (w.drewN (a + n)) fun e w'' => e = .returned v ∧ ∃ m, w'' = w.drewN (a + m) :=
  h.mono fun _ _ ⟨he, m, hm⟩ => ⟨he, n + m, by rw [hm, World.drewN_drewN, Nat.add_assoc]⟩
theorem ret_bool {a b : Bool} (h : a = b) : Ending.returned (.bool a) = .returned (.bool b) := by rw [h]
theorem ret_int {k : IntKind} {a b : Int} (h : a = b) : Ending.returned (.int k a) = .returned (.int k b) := by rw [h]

/-- A slice type and its element's row of the table. -/
structure Elem (P : Program) (t e : TypeId) (z : Value) (size bytes : Nat) : Prop where
  und : P.underlying t = some (.slice e)
  inf : (P.info? e).map (fun i => (i.zero, i.size, i.bytes)) = some (some z, size, bytes)
  one : z.cells.size = size
  pos : 0 < size
  byt : 1 ≤ bytes

/-- One new element lies in a block of its own. -/
theorem Rd.one {α : Type} (w : World) (e : TypeId) (enc : α → Value) (x : α) : Rd (w.alloc (.cells #[enc x] e)) enc (some ⟨w.heap.size, 0, none⟩) 1 [x] :=
  ⟨Nat.le_refl _, by unfold maxLen; omega, fun _ => ⟨_, 0, rfl, fun k y hy => by
    match k, hy with
    | 0, hy =>
      simp at hy
      subst hy
      simp⟩⟩

theorem Rd.two {α : Type} (w : World) (e : TypeId) (enc : α → Value) (x y : α) : Rd (w.alloc (.cells #[enc x, enc y] e)) enc (some ⟨w.heap.size, 0, none⟩) 2 [x, y] :=
  ⟨Nat.le_refl _, by unfold maxLen; omega, fun _ => ⟨_, 0, rfl, fun k z hz => by
    match k, hz with
    | 0, hz =>
      simp at hz
      subst hz
      simp
    | 1, hz =>
      simp at hz
      subst hz
      simp⟩⟩
theorem Rd.two0 {α : Type} {w : World} {enc : α → Value} {g : Nat} {x y : α} (h : Rd w enc (some ⟨g, 0, none⟩) 2 [x, y]) : w.cell? ⟨g, 0, none⟩ = some (enc x) := by
  obtain ⟨b, off, hA, hc⟩ := h.at0 (by simp)
  injection hA with hA
  injection hA with h1 h2
  subst h1 h2
  exact hc 0 x rfl
theorem Rd.two1 {α : Type} {w : World} {enc : α → Value} {g : Nat} {x y : α} (h : Rd w enc (some ⟨g, 0, none⟩) 2 [x, y]) : w.cell? ⟨g, 1, none⟩ = some (enc y) := by
  obtain ⟨b, off, hA, hc⟩ := h.at0 (by simp)
  injection hA with hA
  injection hA with h1 h2
  subst h1 h2
  exact hc 1 y rfl
section
variable {P : Program} {w : World}
theorem run_append_rd {α : Type} {t ty e : TypeId} {z : Value} {bytes base n : Nat} (E : Elem P t e z 1 bytes) {v : Value} {xs : List Value} (hown : w.ownsRow base e 1 v n xs)
    {A : Option Addr} {c : Nat} {news : List α} {enc : α → Value} (hr : Rd w enc A c news) (h1 : ∀ y, (enc y).oneCell' = true)
    (hb : (n + news.length) * bytes ≤ 140737488355328) (hbase : base ≤ w.heap.size) :
    ∃ A' c' w', (Builtin.append_ #[t, t] ty #[v, .slice A news.length c]).run P w = .ok (.slice A' (n + news.length) c') w' ∧ w'.ownsRow base e 1 (.slice A' (n + news.length) c') (n + news.length) (xs ++ news.map enc) ∧
      w.grownBy w' v.ownBlock ∧ ((Value.slice A' (n + news.length) c').ownBlock = v.ownBlock ∨ (Value.slice A' (n + news.length) c').ownBlock = some w.heap.size) := by
  obtain ⟨i, hi, hz, hsz, hby⟩ := info_parts E.inf
  have hlen : (news.map enc).length = news.length * 1 := by simp
  rcases Nat.eq_zero_or_pos news.length with h0 | h0
  · have hn : news = [] := List.eq_nil_of_length_eq_zero h0
    subst hn
    obtain ⟨A', c', rfl⟩ := own_form hown
    refine ⟨A', c', w, ?_, by simpa using hown, World.grownBy.refl w _, .inl rfl⟩
    rcases A with _ | ad
    · rcases hown.2 with ⟨he, hz0⟩ | ⟨g, cap, cur, he, _, _, hnc, _⟩
      · injection he with e1 e2 e3
        subst e1 e3
        simp [Builtin.append_, run_underlying E.und, sizeOf, typeInfo, hi, Builtin.lenOf, Builtin.firstCells, hz0]
      · injection he with e1 e2 e3
        subst e1 e3
        simp [Builtin.append_, run_underlying E.und, sizeOf, typeInfo, hi, Builtin.lenOf, Builtin.firstCells, hnc, storeCells]
    · rcases hown.2 with ⟨he, hz0⟩ | ⟨g, cap, cur, he, _, _, hnc, _⟩
      · injection he with e1 e2 e3
        subst e1 e3
        simp [Builtin.append_, run_underlying E.und, sizeOf, typeInfo, hi, Builtin.lenOf, Builtin.firstCells, hz0, loadCells, loadCellsFrom]
      · injection he with e1 e2 e3
        subst e1 e3
        simp [Builtin.append_, run_underlying E.und, sizeOf, typeInfo, hi, Builtin.lenOf, Builtin.firstCells, hnc, storeCells, loadCells, loadCellsFrom]
  · obtain ⟨b, off, rfl, hc⟩ := hr.at0 h0
    have hm : n + news.length ≤ maxLen := by
      have hh : (n + news.length) * 1 ≤ (n + news.length) * bytes := Nat.mul_le_mul_left _ E.byt
      unfold maxLen
      omega
    obtain ⟨v', w', hrun, h2, h3, _, h5⟩ := run_append_own_at (P := P) w base t ty e i z 1 bytes E.und hi hz hsz hby E.one E.pos v n xs hown ⟨b, off, none⟩ news.length c (news.map enc) hlen
      (fun j u hu => by
        simp only [List.getElem?_map, Option.map_eq_some_iff] at hu
        obtain ⟨x, hx, rfl⟩ := hu
        rw [Addr.add_lit]
        exact hc j x hx) (fun u hu => by
        obtain ⟨x, _, rfl⟩ := List.mem_map.1 hu
        exact h1 x) hm hb hbase
    obtain ⟨A', c', rfl⟩ := own_form h2
    exact ⟨A', c', w', hrun, h2, h3, h5⟩

/-- append at the walk: onto a slice of the call's own, the source nil, empty or not. -/
theorem wpList_append_rd {α : Type} {ops : Array Oper} {rest : List Oper} {o : Oper} {a : Act} {Q : Exit → Act → World → Prop} (hgd : o.guard = none) (s x : Operand) (t : TypeId)
    (ho : o.op = .call { callee := .builtin .append, args := #[s, x], argTypes := #[t, t] })
    {e : TypeId} {z : Value} {bytes base n : Nat} (E : Elem P t e z 1 bytes) (v : Value) (xs : List Value) (hs : a.eval s = v) (hown : w.ownsRow base e 1 v n xs)
    (A : Option Addr) (c : Nat) (news : List α) (enc : α → Value) (hx : a.eval x = .slice A news.length c) (hr : Rd w enc A c news) (h1 : ∀ y, (enc y).oneCell' = true)
    (hb : (n + news.length) * bytes ≤ 140737488355328) (hbase : base ≤ w.heap.size)
    (h : ∀ A' c' w', w'.ownsRow base e 1 (.slice A' (n + news.length) c') (n + news.length) (xs ++ news.map enc) → w.grownBy w' v.ownBlock →
      ((Value.slice A' (n + news.length) c').ownBlock = v.ownBlock ∨ (Value.slice A' (n + news.length) c').ownBlock = some w.heap.size) → wpList P ops Q rest (a.put o.dst (.slice A' (n + news.length) c')) w') :
    wpList P ops Q (o :: rest) a w := by
  refine wpList_plain hgd fun K hK => ?_
  obtain ⟨A', c', w', hrun, h2, h3, h5⟩ := run_append_rd (P := P) (ty := o.type) E hown hr h1 hb hbase
  unfold Oper.wp execOp
  simp only [ho, resolve, invoke, builtin, Sem.run_bind, Sem.run_pure, Result.andThen_ok, List.map_toArray, List.map_cons, List.map_nil, hs, hx, hrun]
  exact hK _ _ (h A' c' w' h2 h3 h5)
end

/-- What a loop has gathered in a slice of the call's own; w: the world in which the call began. -/
def Gath (w : World) (e : TypeId) (zs : List Value) (v : Value) (wr : World) : Prop :=
  ∃ A c, v = .slice A zs.length c ∧ wr.ownsRow w.heap.size e 1 (.slice A zs.length c) zs.length zs ∧ Fr [] w wr
theorem Gath.start (w : World) (e : TypeId) {zs : List Value} (h : zs = []) : Gath w e zs (.slice none 0 0) w := by
  subst h
  exact ⟨none, 0, rfl, World.ownsRow_nil w w.heap.size e 1, Fr.refl _ _⟩
theorem Fr.app {S : List Nat} {w w1 w2 : World} {base n : Nat} {e : TypeId} {v : Value} {xs : List Value} {size : Nat} (hf : Fr S w w1) (h1 : w1.ownsRow base e size v n xs) (hb : w.heap.size ≤ base) (hg : w1.grownBy w2 v.ownBlock) : Fr S w w2 :=
  hf.grown hg fun k hk => .inr (Nat.le_trans hb (h1.lt k hk).1)
theorem Gath.snoc {w w1 w2 : World} {e : TypeId} {v : Value} {n m : Nat} {xs ys zs : List Value} {A : Option Addr} {c : Nat} (hf : Fr [] w w1) (h1 : w1.ownsRow w.heap.size e 1 v n xs) (hg : w1.grownBy w2 v.ownBlock)
    (h2 : w2.ownsRow w.heap.size e 1 (.slice A m c) m ys) (hz : zs = ys) : Gath w e zs (.slice A m c) w2 := by
  subst hz
  have hm : m = zs.length := by have := h2.1; omega
  subst hm
  exact ⟨A, c, rfl, h2, hf.app h1 (Nat.le_refl _) hg⟩
theorem Gath.same {w w1 : World} {e : TypeId} {n c : Nat} {A : Option Addr} {xs zs : List Value} (hf : Fr [] w w1) (h : w1.ownsRow w.heap.size e 1 (.slice A n c) n xs) (hz : zs = xs) : Gath w e zs (.slice A n c) w1 := by
  subst hz
  have hm : n = zs.length := by have := h.1; omega
  subst hm
  exact ⟨A, c, rfl, h, hf⟩
theorem Gath.ret {w w1 : World} {e : TypeId} {n c : Nat} {A : Option Addr} {xs zs : List Value} (hf : Fr [] w w1) (h : w1.ownsRow w.heap.size e 1 (.slice A n c) n xs) (hz : zs = xs) : RetOwn w e zs (.returned (.slice A n c)) w1 := by
  subst hz
  have hm : n = zs.length := by have := h.1; omega
  subst hm
  exact ⟨A, c, rfl, hf, h⟩

/-- make([]T, 0, n). -/
theorem wpList_make0 {P : Program} {w : World} {ops : Array Oper} {rest : List Oper} {o : Oper} {a : Act} {Q : Exit → Act → World → Prop}
    (hg : o.guard = none) (l c : Operand) (t : TypeId) (hop : o.op = Op.makeSlice t l c) {e : TypeId} {z : Value} {size bytes : Nat} (E : Elem P t e z size bytes)
    (n : Nat) (hl : a.eval l = .int .i64 0) (hc : a.eval c = .int .i64 n) (hb : bytes * n ≤ 140737488355328)
    (hK : ∀ w', w'.ownsRow w.heap.size e size (.slice (some ⟨w.heap.size, 0, none⟩) 0 n) 0 [] → w.grownBy w' none → wpList P ops Q rest (a.put o.dst (.slice (some ⟨w.heap.size, 0, none⟩) 0 n)) w') :
    wpList P ops Q (o :: rest) a w := by
  obtain ⟨i, hi, hz, hsz, hby⟩ := info_parts E.inf
  have hm : n ≤ maxLen := by
    have hh : 1 * n ≤ bytes * n := Nat.mul_le_mul_right _ E.byt
    unfold maxLen
    omega
  exact wpList_make_own w hg l c t hop w.heap.size e i z size E.und hi hz hsz .i64 .i64 n n hl hc rfl (by rw [hby]; omega) hm (Nat.le_refl _) hK
/-- make([]T, n). -/
theorem wpList_makeN {P : Program} {w : World} {ops : Array Oper} {rest : List Oper} {o : Oper} {a : Act} {Q : Exit → Act → World → Prop}
    (hg : o.guard = none) (l c : Operand) (t : TypeId) (hop : o.op = Op.makeSlice t l c) {e : TypeId} {z : Value} {bytes : Nat} (E : Elem P t e z 1 bytes) (hz1 : z.cells = #[z])
    (n : Nat) (hl : a.eval l = .int .i64 n) (hc : a.eval c = .int .i64 n) (hb : bytes * n ≤ 140737488355328)
    (hK : ∀ w', w'.ownsRow w.heap.size e 1 (.slice (some ⟨w.heap.size, 0, none⟩) n n) n (List.replicate n z) → w.grownBy w' none → wpList P ops Q rest (a.put o.dst (.slice (some ⟨w.heap.size, 0, none⟩) n n)) w') :
    wpList P ops Q (o :: rest) a w := by
  obtain ⟨i, hi, hz, hsz, hby⟩ := info_parts E.inf
  have hm : n ≤ maxLen := by
    have hh : 1 * n ≤ bytes * n := Nat.mul_le_mul_right _ E.byt
    unfold maxLen
    omega
  exact wpList_make_full w hg l c t hop w.heap.size e i z 1 E.und hi hz hsz .i64 .i64 n n n hl hc rfl rfl (by rw [hby]; omega) hm (Nat.le_refl _) fun w' h1 h2 => hK w' (by rw [hz1, Nat.mul_one, toList_madeCells_one] at h1; exact h1) h2
theorem Gath.made {w w1 w2 : World} {e : TypeId} {n : Nat} {zs : List Value} {A : Option Addr} (hf : Fr [] w w1) (h : w2.ownsRow w1.heap.size e 1 (.slice A 0 n) 0 []) (hg : w1.grownBy w2 none) (hz : zs = []) : Gath w e zs (.slice A 0 n) w2 := by
  subst hz
  exact ⟨A, n, rfl, ⟨h.1, h.2.imp id fun ⟨g, cap, cur, h1, h2, h3⟩ => ⟨g, cap, cur, h1, Nat.le_trans hf.size h2, h3⟩⟩, hf.grown hg (by simp)⟩
theorem own_empty (w : World) (e : TypeId) (H : Nat) (hH : H = w.heap.size) : (w.alloc (.cells #[] e)).ownsRow H e 1 (.slice (some ⟨H, 0, none⟩) 0 0) 0 [] := by
  subst hH
  exact ⟨by simp, .inr ⟨w.heap.size, 0, #[], rfl, Nat.le_refl _, heap_alloc_new w _, Nat.le_refl _, by unfold maxLen; omega, rfl, rfl⟩⟩
theorem own_one (w : World) (e : TypeId) (u : Value) (H : Nat) (hH : H = w.heap.size) : (w.alloc (.cells #[u] e)).ownsRow H e 1 (.slice (some ⟨H, 0, none⟩) 1 1) 1 [u] := by
  subst hH
  exact ⟨by simp, .inr ⟨w.heap.size, 1, #[u], rfl, Nat.le_refl _, heap_alloc_new w _, Nat.le_refl _, by unfold maxLen; omega, rfl, rfl⟩⟩
theorem apart_new {bp H off : Nat} (h : bp < H) (a : Addr) (ha : some (⟨H, off, none⟩ : Addr) = some a) : a.block ≠ bp := by
  injection ha with ha
  subst ha
  show H ≠ bp
  omega
theorem own_apart {w : World} {base bp n c size : Nat} {e : TypeId} {A : Option Addr} {xs : List Value} (h : w.ownsRow base e size (.slice A n c) n xs) (hb : bp < base) (a : Addr) (ha : A = some a) : a.block ≠ bp := by
  subst ha
  have := (h.lt a.block rfl).1
  omega
theorem own_rd {α : Type} {w : World} {base n m c : Nat} {e : TypeId} {A : Option Addr} {ys : List Value} {xs : List α} {enc : α → Value} (h : w.ownsRow base e 1 (.slice A n c) m ys) (hy : ys = xs.map enc) (hm : n = m) : Rd w enc A c xs := by
  subst hy hm
  exact (Rd.of_own h).2
theorem own_some {w : World} {base n c size : Nat} {e : TypeId} {A : Option Addr} {xs : List Value} (h : w.ownsRow base e size (.slice A n c) n xs) (h0 : 0 < n) : ∃ g, A = some ⟨g, 0, none⟩ ∧ base ≤ g ∧ g < w.heap.size := by
  rcases h.2 with ⟨he, hz⟩ | ⟨g, cap, cur, he, hb, hh, _⟩
  · omega
  · injection he with e1 e2 e3
    exact ⟨g, e1, hb, lt_of_block hh⟩
theorem own_base {w : World} {b b' : Nat} {e : TypeId} {size n : Nat} {v : Value} {xs : List Value} (h : w.ownsRow b e size v n xs) (hb : b' ≤ b) : w.ownsRow b' e size v n xs :=
  ⟨h.1, h.2.imp id fun ⟨g, cap, cur, h1, h2, h3⟩ => ⟨g, cap, cur, h1, Nat.le_trans hb h2, h3⟩⟩

theorem some_ne_of_lt {a b : Nat} {o : Option Nat} (h : a < b) (ho : o = some b) : some a ≠ o := by
  subst ho
  intro e
  injection e with e
  omega

/-- A block of cells, known whole. -/
def Blk (w : World) (g : Nat) (t : TypeId) (cs : Array Value) : Prop := w.heap[g]? = some (.cells cs t (0, 0))
section
variable {w w' : World} {g : Nat} {t : TypeId} {cs : Array Value}
theorem Blk.lt (h : Blk w g t cs) : g < w.heap.size := lt_of_block h
theorem Blk.cell (h : Blk w g t cs) (i : Nat) {u : Value} (hu : cs[i]? = some u) : w.cell? ⟨g, i, none⟩ = some u := (cell_of_row w g i cs t (0, 0) h).trans hu
theorem Blk.frozen (h : Blk w g t cs) (i : Nat) : w.frozen? ⟨g, i, none⟩ = false := by
  unfold Blk at h
  simp [World.frozen?, h]
theorem Blk.new (w : World) (t : TypeId) (cs : Array Value) (H : Nat) (hH : H = w.heap.size) : Blk (w.alloc (.cells cs t)) H t cs := by subst hH; exact heap_alloc_new w _
theorem Blk.drewN (h : Blk w g t cs) (n : Nat) : Blk (w.drewN n) g t cs := h
theorem Blk.drew (h : Blk w g t cs) : Blk w.drew g t cs := h
theorem Blk.alloc (h : Blk w g t cs) (o : Obj) : Blk (w.alloc o) g t cs := (Below.heap_alloc w o g h.lt).trans h
theorem Blk.set_ (h : Blk w g t cs) (i : Nat) (u : Value) : Blk (w.setCell ⟨g, i, none⟩ u) g t (cs.setIfInBounds i u) := heap_setCell_same w g i cs t u h
theorem Blk.far (h : Blk w g t cs) {p : Addr} (hp : g ≠ p.block) (u : Value) : Blk (w.setCell p u) g t cs := (Below.heap_setCell w p u g hp).trans h
theorem Blk.fr {S : List Nat} (h : Blk w g t cs) (hf : Fr S w w') (hn : g ∉ S) : Blk w' g t cs := hf.heap h hn
theorem Blk.grown {row : Option Nat} (h : Blk w g t cs) (hg : w.grownBy w' row) (hn : some g ≠ row) : Blk w' g t cs := (hg.block g h.lt hn).trans h
end

/-- A slice whose cells are of another form does not lie in a block. -/
theorem Rd.apart {α : Type} {w : World} {enc : α → Value} {A : Option Addr} {c g : Nat} {t : TypeId} {xs : List α} {cs : Array Value} (h : Rd w enc A c xs) (hb : Blk w g t cs)
    (hne : ∀ (i : Nat) (u : Value), cs[i]? = some u → ∀ x, u ≠ enc x) (h0 : 0 < xs.length) (a : Addr) (ha : A = some a) : a.block ≠ g := by
  obtain ⟨b, off, rfl, hc⟩ := h.at0 h0
  injection ha with ha
  subst ha
  rintro rfl
  have h1 := hc 0 xs[0] (by simp)
  rw [cell_of_row w b (off + 0) _ t (0, 0) hb] at h1
  exact hne _ _ h1 _ rfl
/-- A row of the call's own, full: the block. -/
theorem own_blk {w : World} {base g n : Nat} {e : TypeId} {xs : List Value} (h : w.ownsRow base e 1 (.slice (some ⟨g, 0, none⟩) n n) n xs) (h0 : 0 < n) : Blk w g e xs.toArray := by
  rcases h.2 with ⟨he, _⟩ | ⟨g', cap, cur, he, _, hh, hnc, _, hsz, htk⟩
  · simp at he
  · injection he with e1 e2 e3
    injection e1 with e1
    injection e1 with e1
    subst e1 e3
    have : cur = xs.toArray := by
      have hc : cur.toList.length = n := by simp [hsz]
      rw [List.take_of_length_le (by omega)] at htk
      rw [← htk]
    subst this
    exact hh
theorem Rd.of_blk {α : Type} {w : World} {enc : α → Value} {g : Nat} {t : TypeId} {xs : List α} (h : Blk w g t (xs.map enc).toArray) (hm : xs.length ≤ maxLen) : Rd w enc (some ⟨g, 0, none⟩) xs.length xs :=
  ⟨Nat.le_refl _, hm, fun _ => ⟨g, 0, rfl, fun k x hx => by
    rw [Nat.zero_add, cell_of_row w g k _ t (0, 0) h]
    simp [hx]⟩⟩


/-- What a loop has gathered: numbers. -/
def GathN (w : World) (e : TypeId) (zs : List Int) (v : Value) (wr : World) : Prop :=
  ∃ A c, v = .slice A zs.length c ∧ wr.ownsRow w.heap.size e 1 (.slice A zs.length c) zs.length (zs.map (.int .i64)) ∧ Fr [] w wr
theorem GathN.start (w : World) (e : TypeId) {zs : List Int} (h : zs = []) : GathN w e zs (.slice none 0 0) w := by
  subst h
  exact ⟨none, 0, rfl, World.ownsRow_nil w w.heap.size e 1, Fr.refl _ _⟩
theorem GathN.made {w w1 w2 : World} {e : TypeId} {n : Nat} {zs : List Int} {A : Option Addr} (hf : Fr [] w w1) (h : w2.ownsRow w1.heap.size e 1 (.slice A 0 n) 0 []) (hg : w1.grownBy w2 none) (hz : zs = []) : GathN w e zs (.slice A 0 n) w2 := by
  subst hz
  exact ⟨A, n, rfl, own_base h hf.size, hf.grown hg (by simp)⟩
theorem GathN.snoc {w w1 w2 : World} {e : TypeId} {v : Value} {n m : Nat} {xs : List Value} {ys : List Value} {zs : List Int} {A : Option Addr} {c : Nat} (hf : Fr [] w w1) (h1 : w1.ownsRow w.heap.size e 1 v n xs) (hg : w1.grownBy w2 v.ownBlock)
    (h2 : w2.ownsRow w.heap.size e 1 (.slice A m c) m ys) (hz : zs.map (.int .i64) = ys) : GathN w e zs (.slice A m c) w2 := by
  subst hz
  obtain ⟨hm, _⟩ := Rd.of_own h2
  subst hm
  exact ⟨A, c, rfl, h2, hf.app h1 (Nat.le_refl _) hg⟩
theorem GathN.same {w w1 : World} {e : TypeId} {n c : Nat} {A : Option Addr} {xs : List Value} {zs : List Int} (hf : Fr [] w w1) (h : w1.ownsRow w.heap.size e 1 (.slice A n c) n xs) (hz : zs.map (.int .i64) = xs) : GathN w e zs (.slice A n c) w1 := by
  subst hz
  obtain ⟨hm, _⟩ := Rd.of_own h
  subst hm
  exact ⟨A, c, rfl, h, hf⟩
/-- The call returns numbers of its own. -/
def RetN (w : World) (t : TypeId) (zs : List Int) (e : Ending) (w' : World) : Prop :=
  ∃ A c, e = .returned (.slice A zs.length c) ∧ Fr [] w w' ∧ w'.ownsRow w.heap.size t 1 (.slice A zs.length c) zs.length (zs.map (.int .i64))
theorem GathN.ret {w w1 : World} {e : TypeId} {n c : Nat} {A : Option Addr} {xs : List Value} {zs : List Int} (hf : Fr [] w w1) (h : w1.ownsRow w.heap.size e 1 (.slice A n c) n xs) (hz : zs.map (.int .i64) = xs) : RetN w e zs (.returned (.slice A n c)) w1 := by
  subst hz
  obtain ⟨hm, _⟩ := Rd.of_own h
  subst hm
  exact ⟨A, c, rfl, hf, h⟩
theorem RetOwn.n {w w' : World} {t : TypeId} {zs : List Int} {e : Ending} (h : RetOwn w t (zs.map (.int .i64)) e w') : RetN w t zs e w' := by
  obtain ⟨A, c, he, hf, ho⟩ := h
  rw [List.length_map] at he ho
  exact ⟨A, c, he, hf, ho⟩


/-- An address that is nil, or lies in a block from B on. -/
def Nw (B : Nat) (A : Option Addr) : Prop := ∀ a, A = some a → B ≤ a.block
theorem Nw.none_ (B : Nat) : Nw B none := fun _ h => by cases h
theorem Nw.mono {B B' : Nat} {A : Option Addr} (h : Nw B A) (hb : B' ≤ B) : Nw B' A := fun a ha => Nat.le_trans hb (h a ha)
theorem Nw.at_ {B b off : Nat} (h : B ≤ b) : Nw B (some ⟨b, off, none⟩) := fun a ha => by injection ha with ha; subst ha; exact h
theorem Nw.own {w : World} {base n c size : Nat} {e : TypeId} {A : Option Addr} {xs : List Value} (h : w.ownsRow base e size (.slice A n c) n xs) : Nw base A := fun a ha => by
  subst ha
  exact (h.lt a.block rfl).1

/-- What is owned stays owned while the frame leaves its block alone. -/
theorem own_fr {S : List Nat} {w w' : World} {base n size : Nat} {e : TypeId} {v : Value} {xs : List Value} (h : w.ownsRow base e size v n xs) (hf : Fr S w w') (hn : ∀ k, v.ownBlock = some k → k ∉ S) : w'.ownsRow base e size v n xs := by
  refine ⟨h.1, ?_⟩
  rcases h.2 with h0 | ⟨g, cap, cur, rfl, hb, hh, rest⟩
  · exact .inl h0
  · exact .inr ⟨g, cap, cur, rfl, hb, hf.heap hh (hn g rfl), rest⟩

end Go.Proofs.YtjpbmbonccenfaaDoor
