/- Texts of this seat, one behind the other: Ask, Ask2, FrQ, PickA. -/
import Derived.Test.YtjpbmbonccenfaaDoort23
import Derived.Test.YtjpbmbonccenfaaDoort215
import Derived.Deep.RegionLaw
import Derived.Test.YtjpbmbonccenfaaDoort214
/- The reference's ask: each set once. -/
namespace Go.Proofs.YtjpbmbonccenfaaDoor
open Go.RowKit
set_option linter.unusedVariables false

/-- append onto a slice of the call's own, as one step of a region. -/
theorem step_append_rd {α : Type} {P : Program} {ops : Array Oper} {o : Oper} {a : Act} {w : World} {K : Act → World → Prop} {Q : Exit → Act → World → Prop} {E : Prop} (hgd : o.guard = none) (s x : Operand) (t : TypeId)
    (ho : o.op = .call { callee := .builtin .append, args := #[s, x], argTypes := #[t, t] })
    {e : TypeId} {z : Value} {bytes base n : Nat} (E1 : Elem P t e z 1 bytes) (v : Value) (xs : List Value) (hs : a.eval s = v) (hown : w.ownsRow base e 1 v n xs)
    (A : Option Addr) (c : Nat) (news : List α) (enc : α → Value) (hx : a.eval x = .slice A news.length c) (hr : Rd w enc A c news) (h1 : ∀ y, (enc y).oneCell' = true)
    (hb : (n + news.length) * bytes ≤ 140737488355328) (hbase : base ≤ w.heap.size)
    (h : ∀ A' c' w', w'.ownsRow base e 1 (.slice A' (n + news.length) c') (n + news.length) (xs ++ news.map enc) → w.grownBy w' v.ownBlock →
      ((Value.slice A' (n + news.length) c').ownBlock = v.ownBlock ∨ (Value.slice A' (n + news.length) c').ownBlock = some w.heap.size) → K (a.put o.dst (.slice A' (n + news.length) c')) w') :
    if Region.wanted o (yielded ops a.tmps) = true then Oper.wp P o a w K Q else E := by
  have hw : Region.wanted o (yielded ops a.tmps) = true := by simp [Region.wanted, hgd]
  rw [if_pos hw]
  obtain ⟨A', c', w', hrun, h2, h3, h5⟩ := run_append_rd (P := P) (ty := o.type) E1 hown hr h1 hb hbase
  unfold Oper.wp execOp
  simp only [ho, resolve, invoke, builtin, Sem.run_bind, Sem.run_pure, Result.andThen_ok, List.map_toArray, List.map_cons, List.map_nil, hs, hx, hrun]
  exact h A' c' w' h2 h3 h5

/-- The cell of a slice of numbers. -/
def slVal (A : Option Addr) (q : List Int) (c : Nat) : Value := .slice A q.length c
/-- What a play knows: its rows. -/
structure PKn (B : Nat) (w : World) (bp : Nat) (ans : List Int) (used : Nat) (kn : Kn) (stop : Bool) (want : List Int) : Prop where
  ex : ∃ A c S T D d rows, Blk w bp 108 #[.slice A ans.length c, .int .i64 used, S, T, .bool stop, .slice D want.length d] ∧ Rd w (.int .u8) A c ans ∧ (0 < ans.length → ∀ x, A = some x → x.block < B) ∧
    Rd w (.int .i64) D d want ∧ Stay B w D ∧ w.ownsRow B 22 1 S kn.length rows ∧ w.ownsRow B 39 1 T kn.length (kn.map fun p => .int .u8 p.2) ∧
    (∀ (k : Nat) p, kn[k]? = some p → ∃ A c, rows[k]? = some (slVal A p.1 c) ∧ Rd w (.int .i64) A c p.1 ∧ Stay B w A)
  base : B ≤ bp
  le : used ≤ ans.length

theorem PKn.fr0 {B : Nat} {w w' : World} {bp used : Nat} {ans : List Int} {kn : Kn} {stop : Bool} {want : List Int} (h : PKn B w bp ans used kn stop want) (hf : Fr [] w w') : PKn B w' bp ans used kn stop want := by
  obtain ⟨A, c, S, T, D, d, rows, hh, hr, hna, hrD, hsD, hoS, hoT, hel⟩ := h.ex
  refine ⟨⟨A, c, S, T, D, d, rows, hh.fr hf (by simp), hr.fr0 hf, hna, hrD.fr0 hf, hsD.frp (FrP.of_fr0 hf), own_fr hoS hf (by simp), own_fr hoT hf (by simp), fun k p hp => ?_⟩, h.base, h.le⟩
  obtain ⟨A, c, h1, h2, h3⟩ := hel k p hp
  exact ⟨A, c, h1, h2.fr0 hf, h3.frp (FrP.of_fr0 hf)⟩

def NextPost2 (w : World) (bp : Nat) (A : Option Addr) (c : Nat) (ans : List Int) (used : Nat) (S T : Value) (D : Option Addr) (d a : Int) (e : Ending) (w' : World) : Prop :=
  e = .returned (.int .u8 (told a)) ∧ Fr [bp] w w' ∧ Blk w' bp 108 #[.slice A ans.length c, .int .i64 (used + 1 : Nat), S, T, .bool false, .slice D 0 d.toNat]

set_option maxHeartbeats 800000 in
theorem next2_some (bp : Nat) (A : Option Addr) (c : Nat) (ans : List Int) (used : Nat) (S T : Value) (D : Option Addr) (d : Nat) (C : Value) (a : Int) (w : World)
    (hh : Blk w bp 108 #[.slice A ans.length c, .int .i64 used, S, T, .bool false, .slice D 0 d]) (hr : Rd w (.int .u8) A c ans) (hna : 0 < ans.length → ∀ x, A = some x → x.block < bp) (ha : ans[used]? = some a) :
    Calls Tryd.prog 105 #[.pointer (some ⟨bp, 0, none⟩), C] w (NextPost2 w bp A c ans used S T D d a) := by
  have hu : used < ans.length := (List.getElem?_eq_some_iff.1 ha).1
  have hbd := hr.bound
  obtain ⟨b1, o1, x, rfl, hx, hc⟩ := hr.at_ hu
  obtain rfl : a = x := by have := ha.symm.trans hx.out; simpa using this
  clear ha
  have c0 : w.cell? ⟨bp, 0, none⟩ = some (.slice (some ⟨b1, o1, none⟩) ans.length c) := hh.cell 0 rfl
  have c1 : w.cell? ⟨bp, 1, none⟩ = some (.int .i64 used) := hh.cell 1 rfl
  have f1 : w.frozen? ⟨bp, 1, none⟩ = false := hh.frozen 1
  have hne := hna (by omega) _ rfl
  have hne' : b1 ≠ bp := Nat.ne_of_lt hne
  have HH := Lib.hid hh
  clear hh
  go_enter Tryd.func105, Tryd.ntmps105
  go_wp2
  go_quiet (fail)
  go_wp2
  go_quiet ((go_at_call 115; first | exact quiet_of (told_any _ _) | exact quiet_add (told_any _ _)))
  go_wp2
  go_ret
  exact ⟨rfl, (by repeat (first | exact Fr.refl _ _ | assumption | apply Fr.drewN | apply Fr.drew | apply Fr.alloc | refine Fr.setCell ?_ (by simp) _)), by simpa using ((HH.out.set_ 1 _).drewN _).drewN _⟩
def StopPost2 (w : World) (bp : Nat) (A : Option Addr) (c : Nat) (ans : List Int) (used : Nat) (S T : Value) (want : List Int) (e : Ending) (w' : World) : Prop :=
  e = .returned (.int .u8 0) ∧ Fr [bp] w w' ∧ ∃ D d, Blk w' bp 108 #[.slice A ans.length c, .int .i64 used, S, T, .bool true, .slice D want.length d] ∧ w'.ownsRow w.heap.size 3 1 (.slice D want.length d) want.length (want.map (.int .i64))
set_option maxHeartbeats 800000 in
theorem next2_none (bp : Nat) (A : Option Addr) (c : Nat) (ans : List Int) (used : Nat) (S T : Value) (D : Option Addr) (d : Nat) (C : Option Addr) (cc : Nat) (cs : List Int) (w : World)
    (hh : Blk w bp 108 #[.slice A ans.length c, .int .i64 used, S, T, .bool false, .slice D 0 d]) (hbd : ans.length ≤ 9223372036854775807) (hu : ans.length ≤ used)
    (hC : Rd w (.int .i64) C cc cs) (hlen : cs.length ≤ 1000000) (hCn : 0 < cs.length → ∀ a, C = some a → a.block ≠ bp) :
    Calls Tryd.prog 105 #[.pointer (some ⟨bp, 0, none⟩), .slice C cs.length cc] w (StopPost2 w bp A c ans used S T cs) := by
  have c0 : w.cell? ⟨bp, 0, none⟩ = some (.slice A ans.length c) := hh.cell 0 rfl
  have c1 : w.cell? ⟨bp, 1, none⟩ = some (.int .i64 used) := hh.cell 1 rfl
  have c4 : w.cell? ⟨bp, 4, none⟩ = some (.bool false) := hh.cell 4 rfl
  have f4 : w.frozen? ⟨bp, 4, none⟩ = false := hh.frozen 4
  have hlt := hh.lt
  have HH := Lib.hid hh
  clear hh
  go_enter Tryd.func105, Tryd.ntmps105
  go_wp2
  go_quiet (fail)
  go_wp2_with (at_builtin; refine wpList_append_rd rfl (.tmp 19) (.tmp 20) _ rfl elemInts _ _ rfl (own_drewN (own_empty _ _ w.heap.size (by simp)) _) _ _ cs (.int .i64) rfl (((hC.setCell (by simpa using hCn) _).alloc _).drewN _) one_i64 (by omega) (by simp) ?_; intro A2 c2 w2 hown2 hg2 hat2; have HB := Lib.hid ((((HH.out.set_ 4 (.bool true)).alloc _).drewN _).grown hg2 (some_ne_of_lt hlt rfl)); have c5 := HB.out.cell 5 rfl; have f5 := HB.out.frozen 5)
  go_ret
  have hw2 := ((((Fr.refl [bp] w).setCell (.inl (by simp)) _).alloc _).drewN _).app (own_drewN (own_empty _ _ w.heap.size (by simp)) _) (Nat.le_refl _) hg2
  refine ⟨rfl, hw2.setCell (.inl (by simp)) _, A2, c2, by simpa using HB.out.set_ 5 _, ?_⟩
  have := own_fr hown2 ((Fr.refl [bp] w2).setCell (p := ⟨bp, 5, none⟩) (.inl (by simp)) (.slice A2 (0 + cs.length) c2)) (fun k hk => by have := (hown2.lt k hk).1; simp; omega)
  simpa using this
end Go.Proofs.YtjpbmbonccenfaaDoor

/- The reference's ask: what has been asked lies in the play. -/
namespace Go.Proofs.YtjpbmbonccenfaaDoor
open Go.RowKit
set_option linter.unusedVariables false

def AskPost (B : Nat) (w : World) (bp : Nat) (ans : List Int) (used : Nat) (kn : Kn) (q : List Int) (e : Ending) (w' : World) : Prop :=
  match askV ans used kn q with
  | some (v, u, kn') => e = .returned (.int .u8 v) ∧ FrP B w w' ∧ PKn B w' bp ans u kn' false []
  | none => e = .returned (.int .u8 0) ∧ FrP B w w' ∧ PKn B w' bp ans used kn true q

/-- A block that is none of the play's own. -/
def Off (w : World) (bp g : Nat) : Prop := ∃ x0 x1 S T x4 x5, Blk w bp 108 #[x0, x1, S, T, x4, x5] ∧ g < w.heap.size ∧ g ≠ bp ∧ S.ownBlock ≠ some g ∧ T.ownBlock ≠ some g
/-- Such blocks are as they were, and are still none of the play's own. -/
def Kept (w w' : World) (bp : Nat) : Prop := ∀ g, Off w bp g → Off w' bp g ∧ w'.heap[g]? = w.heap[g]?
theorem Kept.refl (w : World) (bp : Nat) : Kept w w bp := fun _ h => ⟨h, rfl⟩
theorem Kept.drewN (w : World) (bp n : Nat) : Kept w (w.drewN n) bp := fun _ h => ⟨h, rfl⟩
theorem Kept.trans {a b c : World} {bp : Nat} (h : Kept a b bp) (k : Kept b c bp) : Kept a c bp := fun g hg => by
  obtain ⟨h1, h2⟩ := h g hg
  obtain ⟨h3, h4⟩ := k g h1
  exact ⟨h3, h4.trans h2⟩
theorem Kept.of {w w1 : World} {bp : Nat} {a0 a1 S T a4 a5 b0 b1 S' T' b4 b5 : Value} (hh : Blk w bp 108 #[a0, a1, S, T, a4, a5]) (hf : Fr (bp :: (S.ownBlock.toList ++ T.ownBlock.toList)) w w1) (hb : Blk w1 bp 108 #[b0, b1, S', T', b4, b5])
    (hS : S'.ownBlock = S.ownBlock ∨ ∃ k, S'.ownBlock = some k ∧ w.heap.size ≤ k) (hT : T'.ownBlock = T.ownBlock ∨ ∃ k, T'.ownBlock = some k ∧ w.heap.size ≤ k) : Kept w w1 bp := fun g ⟨x0, x1, S0, T0, x4, x5, h1, h2, h3, h4, h5⟩ => by
  have he := Option.some.inj ((show w.heap[bp]? = _ from h1).symm.trans hh)
  injection he with he
  simp only [Array.mk.injEq, List.cons.injEq] at he
  obtain ⟨rfl, rfl, rfl, rfl, rfl, rfl, _⟩ := he
  have key : ∀ {V V' : Value}, (V'.ownBlock = V.ownBlock ∨ ∃ k, V'.ownBlock = some k ∧ w.heap.size ≤ k) → V.ownBlock ≠ some g → V'.ownBlock ≠ some g := by
    rintro V V' (h | ⟨k, h, hk⟩) hn
    · rw [h]; exact hn
    · rw [h]; simp; omega
  refine ⟨⟨_, _, _, _, _, _, hb, Nat.lt_of_lt_of_le h2 hf.size, h3, key hS h4, key hT h5⟩, hf.block g h2 ?_⟩
  simp [h3, h4, h5]
theorem Off.fr0 {w w' : World} {bp g : Nat} (h : Off w bp g) (hf : Fr [] w w') : Off w' bp g := by
  obtain ⟨x0, x1, S, T, x4, x5, h1, h2, h3, h4, h5⟩ := h
  exact ⟨x0, x1, S, T, x4, x5, h1.fr hf (by simp), Nat.lt_of_lt_of_le h2 hf.size, h3, h4, h5⟩
theorem Kept.fr0 {w w' : World} {bp : Nat} (hf : Fr [] w w') : Kept w w' bp := fun g h => ⟨h.fr0 hf, hf.block g (by obtain ⟨_, _, _, _, _, _, _, h2, _⟩ := h; exact h2) (by simp)⟩

/-- A block that is no row's of what has been asked. -/
def RowsOff (w : World) (bp g : Nat) : Prop := ∀ x0 x1 S T x4 x5, Blk w bp 108 #[x0, x1, S, T, x4, x5] → ∀ b n c, S = .slice (some ⟨b, 0, none⟩) n c → ∀ k a n' c', k < n → w.cell? ⟨b, k, none⟩ = some (.slice (some a) n' c') → a.block ≠ g
def KeptR (w w' : World) (bp : Nat) : Prop := ∀ g, g < w.heap.size → RowsOff w bp g → RowsOff w' bp g
theorem blk6_inj {w : World} {bp : Nat} {t : TypeId} {a0 a1 a2 a3 a4 a5 b0 b1 b2 b3 b4 b5 : Value} (h : Blk w bp t #[a0, a1, a2, a3, a4, a5]) (k : Blk w bp t #[b0, b1, b2, b3, b4, b5]) : a2 = b2 ∧ a3 = b3 := by
  have he := Option.some.inj ((show w.heap[bp]? = _ from h).symm.trans k)
  injection he with he
  simp only [Array.mk.injEq, List.cons.injEq] at he
  exact ⟨he.2.2.1, he.2.2.2.1⟩
section
variable {w w' : World} {bp g B n : Nat} {x0 x1 S T x4 x5 : Value} {rows : List Value}
theorem RowsOff.at_rows (h : RowsOff w bp g) (hh : Blk w bp 108 #[x0, x1, S, T, x4, x5]) (ho : w.ownsRow B 22 1 S n rows) (k : Nat) (a : Addr) (n' c' : Nat) (hk : rows[k]? = some (.slice (some a) n' c')) : a.block ≠ g := by
  have hl : rows.length = n := by have := ho.1; omega
  have hkn : k < n := by have := (List.getElem?_eq_some_iff.1 hk).1; omega
  obtain ⟨A, c, rfl⟩ := own_form ho
  obtain ⟨g1, rfl, _, _⟩ := own_some ho (by omega)
  exact h _ _ _ _ _ _ hh g1 n c rfl k a n' c' hkn ((ho.cellAt k (by omega)).trans hk)
theorem RowsOff.of (hh : Blk w bp 108 #[x0, x1, S, T, x4, x5]) (ho : w.ownsRow B 22 1 S n rows) (h : ∀ (k : Nat) (a : Addr) (n' c' : Nat), rows[k]? = some (.slice (some a) n' c') → a.block ≠ g) : RowsOff w bp g := by
  intro y0 y1 S' T' y4 y5 hh' b m c hS k a n' c' hk hc
  obtain ⟨e1, _⟩ := blk6_inj hh hh'
  subst e1 hS
  have hm : m = n := by
    rcases ho.2 with ⟨he, _⟩ | ⟨g', cap, cur, he, _⟩
    · cases he
    · injection he
  subst hm
  exact h k a n' c' ((ho.cellAt k (by omega)).symm.trans hc)
/-- A new play has asked nothing. -/
theorem RowsOff.nil_ (hh : Blk w bp 108 #[x0, x1, .slice none 0 0, T, x4, x5]) : RowsOff w bp g := by
  intro y0 y1 S' T' y4 y5 hh' b m c hS
  obtain ⟨e1, _⟩ := blk6_inj hh hh'
  subst e1
  cases hS
theorem KeptR.fr (hh : Blk w bp 108 #[x0, x1, S, T, x4, x5]) (ho : w.ownsRow B 22 1 S n rows) {y0 y1 T' y4 y5 : Value} (hh' : Blk w' bp 108 #[y0, y1, S, T', y4, y5]) (ho' : w'.ownsRow B 22 1 S n rows) : KeptR w w' bp :=
  fun g _ h => RowsOff.of hh' ho' (h.at_rows hh ho)
theorem KeptR.trans {a b c : World} (hs : a.heap.size ≤ b.heap.size) (h : KeptR a b bp) (k : KeptR b c bp) : KeptR a c bp := fun g hg hr => k g (Nat.lt_of_lt_of_le hg hs) (h g hg hr)
end

def encSl (t : Option Addr × Nat × Nat) : Value := .slice t.1 t.2.1 t.2.2
theorem elemSl : Elem Tryd.prog 24 22 (.slice none 0 0) 1 24 := ⟨Tryd.underlying24, by kernel_rfl, rfl, by omega, by omega⟩
theorem elemVe : Elem Tryd.prog 32 39 (.int .u8 0) 1 1 := ⟨Tryd.underlying32, by kernel_rfl, rfl, by omega, by omega⟩
theorem own_ne_blk {w : World} {B g n : Nat} {e t : TypeId} {size : Nat} {v : Value} {xs : List Value} {cs : Array Value} (h : w.ownsRow B e size v n xs) (hb : Blk w g t cs) (ht : t ≠ e) (k : Nat) (hk : v.ownBlock = some k) : k ≠ g := by
  rintro rfl
  rcases h.2 with ⟨rfl, _⟩ | ⟨g', cap, cur, rfl, _, hh, _⟩
  · cases hk
  · have : g' = k := by simpa [Value.ownBlock] using hk
    subst this
    rw [hb] at hh
    injection hh with hh
    injection hh with h1 h2 h3
    exact ht h2
theorem own_playTy {w : World} {B n : Nat} {e : TypeId} {size : Nat} {v : Value} {xs : List Value} (h : w.ownsRow B e size v n xs) (he : e = 22 ∨ e = 39) (k : Nat) (hk : v.ownBlock = some k) : B ≤ k ∧ ∀ o, w.heap[k]? = some o → PlayTy o := by
  rcases h.2 with ⟨rfl, _⟩ | ⟨g', cap, cur, rfl, hb, hh, _⟩
  · cases hk
  · have : g' = k := by simpa [Value.ownBlock] using hk
    subst this
    refine ⟨hb, fun o ho => ?_⟩
    rw [hh] at ho
    injection ho with ho
    subst ho
    exact ⟨_, _, _, rfl, he.imp id .inl⟩
theorem own_ne_own {w : World} {B B' n m : Nat} {e t : TypeId} {size size' : Nat} {v u : Value} {xs ys : List Value} (h : w.ownsRow B e size v n xs) (h' : w.ownsRow B' t size' u m ys) (ht : t ≠ e) (k : Nat) (hk : v.ownBlock = some k) : u.ownBlock ≠ some k := by
  intro hu
  rcases h'.2 with ⟨rfl, _⟩ | ⟨g', cap, cur, rfl, _, hh, _⟩
  · cases hu
  · have : g' = k := by simpa [Value.ownBlock] using hu
    subst this
    exact own_ne_blk h (show Blk w g' t cur from hh) ht g' hk rfl
theorem frOfGrown {w w' : World} {row : Option Nat} (hg : w.grownBy w' row) : Fr row.toList w w' := (Fr.refl _ w).grown hg fun k hk => .inl (by simp [hk])
theorem lookup_drop {kn : Kn} {q : List Int} {k : Nat} {p : List Int × Int} (h : kn[k]? = some p) :
    @List.lookup (List Int) Int instBEqOfDecidableEq q (kn.drop k) = if q = p.1 then some p.2 else @List.lookup (List Int) Int instBEqOfDecidableEq q (kn.drop (k + 1)) := by
  obtain ⟨hk, rfl⟩ := List.getElem?_eq_some_iff.1 h
  rw [List.drop_eq_getElem_cons hk]
  show (match @BEq.beq (List Int) instBEqOfDecidableEq q kn[k].1 with | true => some kn[k].2 | false => @List.lookup (List Int) Int instBEqOfDecidableEq q (kn.drop (k + 1))) = _
  by_cases hq : q = kn[k].1
  · rw [if_pos hq]
    have : (@BEq.beq (List Int) instBEqOfDecidableEq q kn[k].1) = true := decide_eq_true hq
    rw [this]
  · rw [if_neg hq]
    have : (@BEq.beq (List Int) instBEqOfDecidableEq q kn[k].1) = false := decide_eq_false hq
    rw [this]

/-- What has been asked lies in the play. -/
theorem ask_fin {B bp used sc tc c c3 c5 c2 n d B2 : Nat} {A SA TA A3 A5 A2 D : Option Addr} {ans q : List Int} {kn : Kn} {rows : List Value} {a : Int} {w w1 w4 w5 : World}
    (HH : Blk w bp 108 #[.slice A ans.length c, .int .i64 used, .slice SA kn.length sc, .slice TA kn.length tc, .bool false, .slice D 0 d]) (hB : B ≤ bp) (hu : used < ans.length)
    (hr : Rd w (.int .u8) A c ans) (hna : 0 < ans.length → ∀ x, A = some x → x.block < B) (hrD : Rd w (.int .i64) D d ([] : List Int)) (hsD : Stay B w D)
    (hoS : w.ownsRow B 22 1 (.slice SA kn.length sc) kn.length rows) (hoT : w.ownsRow B 39 1 (.slice TA kn.length tc) kn.length (kn.map fun p => .int .u8 p.2))
    (hel : ∀ (k : Nat) p, kn[k]? = some p → ∃ A c, rows[k]? = some (slVal A p.1 c) ∧ Rd w (.int .i64) A c p.1 ∧ Stay B w A)
    (HF1 : Fr [bp] (w.drewN n) w1) (HF4 : Fr (bp :: ((Value.slice SA kn.length sc).ownBlock.toList ++ (Value.slice TA kn.length tc).ownBlock.toList)) w1 w4)
    (HB4 : Blk w4 bp 108 #[.slice A ans.length c, .int .i64 (used + 1 : Nat), .slice A3 (kn.length + 1) c3, .slice TA kn.length tc, .bool false, .slice D 0 d])
    (HS4 : w4.ownsRow B 22 1 (.slice A3 (kn.length + 1) c3) (kn.length + 1) (rows ++ [slVal A2 q c2])) (HT4 : w4.ownsRow B 39 1 (.slice TA kn.length tc) kn.length (kn.map fun p => .int .u8 p.2))
    (HQ4 : w4.ownsRow B2 3 1 (.slice A2 q.length c2) q.length (q.map (.int .i64)))
    (hg5 : (w4.alloc (.cells #[.int .u8 (told a)] 39)).grownBy w5 (Value.slice TA kn.length tc).ownBlock)
    (hown5 : w5.ownsRow B 39 1 (.slice A5 (kn.length + 1) c5) (kn.length + 1) ((kn.map fun p => .int .u8 p.2) ++ [.int .u8 (told a)]))
    (hat3 : (Value.slice A3 (kn.length + 1) c3).ownBlock = (Value.slice SA kn.length sc).ownBlock ∨ ∃ k, (Value.slice A3 (kn.length + 1) c3).ownBlock = some k ∧ w.heap.size ≤ k)
    (hat5 : (Value.slice A5 (kn.length + 1) c5).ownBlock = (Value.slice TA kn.length tc).ownBlock ∨ ∃ k, (Value.slice A5 (kn.length + 1) c5).ownBlock = some k ∧ w.heap.size ≤ k) (hB2 : w.heap.size ≤ B2) :
    FrP B w (w5.setCell ⟨bp, 3, none⟩ (.slice A5 (kn.length + 1) c5)) ∧ PKn B (w5.setCell ⟨bp, 3, none⟩ (.slice A5 (kn.length + 1) c5)) bp ans (used + 1) (kn ++ [(q, told a)]) false [] ∧
      Kept w (w5.setCell ⟨bp, 3, none⟩ (.slice A5 (kn.length + 1) c5)) bp ∧ KeptR w (w5.setCell ⟨bp, 3, none⟩ (.slice A5 (kn.length + 1) c5)) bp := by
  have hfT := frOfGrown hg5
  have hf5 : Fr (bp :: ((Value.slice SA kn.length sc).ownBlock.toList ++ (Value.slice TA kn.length tc).ownBlock.toList)) w4 (w5.setCell ⟨bp, 3, none⟩ (.slice A5 (kn.length + 1) c5)) :=
    (((Fr.refl _ w4).alloc _).trans (hfT.mono (by intro x hx; simp at hx; simp [hx]))).setCell (.inl (by simp)) _
  have hfa := (HF1.mono (T := bp :: ((Value.slice SA kn.length sc).ownBlock.toList ++ (Value.slice TA kn.length tc).ownBlock.toList)) (by simp)).trans (HF4.trans hf5)
  have hfp : FrP B w (w5.setCell ⟨bp, 3, none⟩ (.slice A5 (kn.length + 1) c5)) := ((FrP.refl B w).drewN n).trans (FrP.of_fr hfa (by
    intro k hk
    simp only [List.mem_cons, List.mem_append, Option.mem_toList] at hk
    rcases hk with rfl | hk | hk
    · refine ⟨hB, fun o ho => ?_⟩
      rw [show (w.drewN n).heap[k]? = _ from HH] at ho
      injection ho with ho
      subst ho
      exact ⟨_, _, _, rfl, .inr (.inr rfl)⟩
    · exact own_playTy (own_drewN hoS n) (.inl rfl) k hk
    · exact own_playTy (own_drewN hoT n) (.inr rfl) k hk))
  have hset : Fr [bp] w5 (w5.setCell ⟨bp, 3, none⟩ (.slice A5 (kn.length + 1) c5)) := (Fr.refl [bp] w5).setCell (.inl (by simp)) _
  have hS4 := HS4.alloc (.cells #[.int .u8 (told a)] 39)
  have hT4 := HT4.alloc (.cells #[.int .u8 (told a)] 39)
  have hQ4 := HQ4.alloc (.cells #[.int .u8 (told a)] 39)
  have hb4 := HB4.alloc (.cells #[.int .u8 (told a)] 39)
  have hb5 := hb4.grown hg5 (fun hk => own_ne_blk hT4 hb4 (by decide) bp hk.symm rfl)
  have hS5 := own_fr hS4 hfT (fun k hk hm => own_ne_own hS4 hT4 (by decide) k hk (by simpa using hm))
  have hQ5 := own_fr hQ4 hfT (fun k hk hm => own_ne_own hQ4 hT4 (by decide) k hk (by simpa using hm))
  have hS6 := own_fr hS5 hset (fun k hk => by simpa using own_ne_blk hS5 hb5 (by decide) k hk)
  have hT6 := own_fr hown5 hset (fun k hk => by simpa using own_ne_blk hown5 hb5 (by decide) k hk)
  have hQ6 := own_fr hQ5 hset (fun k hk => by simpa using own_ne_blk hQ5 hb5 (by decide) k hk)
  have hb6 : Blk (w5.setCell ⟨bp, 3, none⟩ (.slice A5 (kn.length + 1) c5)) bp 108 #[.slice A ans.length c, .int .i64 (used + 1 : Nat), .slice A3 (kn ++ [(q, told a)]).length c3, .slice A5 (kn ++ [(q, told a)]).length c5, .bool false, .slice D ([] : List Int).length d] := by
    have := hb5.set_ 3 (.slice A5 (kn.length + 1) c5)
    simpa using this
  refine ⟨hfp, ?_, (Kept.drewN w bp n).trans (Kept.of (HH.drewN n) hfa hb6 (by simpa using hat3) (by simpa using hat5)), fun g hg h => RowsOff.of hb6 (by simpa using hS6) fun k a n' c' hk => ?_⟩
  rotate_left
  · have hrl : rows.length = kn.length := by have := hoS.1; omega
    by_cases hkl : k < rows.length
    · rw [List.getElem?_append_left hkl] at hk
      exact h.at_rows HH hoS k a n' c' hk
    · have hke := (List.getElem?_eq_some_iff.1 hk).1
      simp at hke
      obtain rfl : k = rows.length := by omega
      simp [slVal] at hk
      obtain ⟨rfl, _, _⟩ := hk
      have := (HQ4.lt a.block rfl).1
      omega
  refine ⟨⟨A, c, .slice A3 (kn ++ [(q, told a)]).length c3, .slice A5 (kn ++ [(q, told a)]).length c5, D, d, rows ++ [slVal A2 q c2], hb6, FrP.below hr hna hfp, hna, hrD.frp hsD hfp, hsD.frp hfp, ?_, ?_, fun k p hp => ?_⟩, hB, hu⟩
  · simpa using hS6
  · simpa using hT6
  · have hrl : rows.length = kn.length := by have := hoS.1; omega
    by_cases hk : k < kn.length
    · rw [List.getElem?_append_left hk] at hp
      obtain ⟨A', c', h1, h2, h3⟩ := hel k p hp
      exact ⟨A', c', by rw [List.getElem?_append_left (by omega)]; exact h1, h2.frp h3 hfp, h3.frp hfp⟩
    · have hke : k = kn.length := by
        have := (List.getElem?_eq_some_iff.1 hp).1
        simp at this
        omega
      subst hke
      simp at hp
      subst hp
      exact ⟨A2, c2, by rw [← hrl]; simp, own_rd hQ6 rfl rfl, Stay.own hQ6⟩

/-- The play's cell of what was said, behind the append. -/
theorem ask_cell {B bp n : Nat} {w4 w5 : World} {v x0 x1 x2 x4 x5 : Value} {a : Int} {xs : List Value}
    (hb : Blk w4 bp 108 #[x0, x1, x2, v, x4, x5]) (hT : w4.ownsRow B 39 1 v n xs) (hg : (w4.alloc (.cells #[.int .u8 a] 39)).grownBy w5 v.ownBlock) :
    w5.cell? ⟨bp, 3, none⟩ = some v ∧ w5.frozen? ⟨bp, 3, none⟩ = false := by
  have hT4 := hT.alloc (.cells #[.int .u8 a] 39)
  have hb4 := hb.alloc (.cells #[.int .u8 a] 39)
  have hb5 := hb4.grown hg (fun hk => own_ne_blk hT4 hb4 (by decide) bp hk.symm rfl)
  exact ⟨hb5.cell 3 rfl, hb5.frozen 3⟩
end Go.Proofs.YtjpbmbonccenfaaDoor

/- The frame of the reference's Schedule. -/
namespace Go.Proofs.YtjpbmbonccenfaaDoor
open Go.RowKit
set_option linter.unusedVariables false

/-- A block of a play's own types. -/
def PlayTyQ (o : Obj) : Prop := ∃ cs e fz, o = .cells cs e fz ∧ (e = 47 ∨ e = 39 ∨ e = 129)
/-- A block of numbers. -/
def IntTyQ (w : World) (k : Nat) : Prop := ∃ cs fz, w.heap[k]? = some (.cells cs 115 fz)
theorem not_playTy_intQ (cs : Array Value) (fz : Nat × Nat) : ¬ PlayTyQ (.cells cs 115 fz) := by
  rintro ⟨cs', e, fz', h, he⟩
  injection h with h1 h2 h3
  subst h2
  revert he
  decide

structure FrQ (B : Nat) (w w' : World) : Prop where
  os : w'.os = w.os
  tape : w'.tape = w.tape
  output : w'.output = w.output
  size : w.heap.size ≤ w'.heap.size
  block : ∀ k o, w.heap[k]? = some o → (k < B ∨ ¬ PlayTyQ o) → w'.heap[k]? = some o

section
variable {B : Nat} {a b c w w' : World} {S : List Nat}
theorem FrQ.refl (B : Nat) (w : World) : FrQ B w w := ⟨rfl, rfl, rfl, Nat.le_refl _, fun _ _ h _ => h⟩
theorem FrQ.trans (h : FrQ B a b) (k : FrQ B b c) : FrQ B a c :=
  ⟨k.os.trans h.os, k.tape.trans h.tape, k.output.trans h.output, Nat.le_trans h.size k.size, fun i o hi hn => k.block i o (h.block i o hi hn) hn⟩
theorem FrQ.of_fr (h : Fr S w w') (hS : ∀ k ∈ S, B ≤ k ∧ ∀ o, w.heap[k]? = some o → PlayTyQ o) : FrQ B w w' :=
  ⟨h.os, h.tape, h.output, h.size, fun k o hk hn => by
    have hm : k ∉ S := fun hm => by
      obtain ⟨h1, h2⟩ := hS k hm
      rcases hn with hn | hn
      · omega
      · exact hn (h2 o hk)
    exact h.heap hk hm⟩
theorem FrQ.of_fr0 (h : Fr [] w w') : FrQ B w w' := FrQ.of_fr h (by simp)
theorem FrQ.drewN (h : FrQ B a w) (n : Nat) : FrQ B a (w.drewN n) := ⟨h.os, h.tape, h.output, h.size, h.block⟩
theorem FrQ.drew (h : FrQ B a w) : FrQ B a w.drew := ⟨h.os, h.tape, h.output, h.size, h.block⟩
theorem FrQ.fr (h : FrQ B w w') (hB : B = w.heap.size) : Fr [] w w' :=
  ⟨h.os, h.tape, h.output, h.size, fun k hk _ => by
    have := h.block k w.heap[k] (Array.getElem?_eq_getElem hk) (.inl (by omega))
    rw [this, Array.getElem?_eq_getElem hk]⟩
/-- A slice of numbers that stays: nil, or from before, or in a block of numbers. -/
def StayQ (B : Nat) (w : World) (A : Option Addr) : Prop := ∀ x, A = some x → x.block < B ∨ IntTyQ w x.block
theorem IntTyQ.frp {k : Nat} (h : IntTyQ w k) (hf : FrQ B w w') : IntTyQ w' k := by
  obtain ⟨cs, fz, hk⟩ := h
  exact ⟨cs, fz, hf.block k _ hk (.inr (not_playTy_intQ _ _))⟩
theorem StayQ.frp {A : Option Addr} (h : StayQ B w A) (hf : FrQ B w w') : StayQ B w' A := fun x hx => (h x hx).imp id fun hi => hi.frp hf
theorem StayQ.none_ (B : Nat) (w : World) : StayQ B w none := fun x hx => by cases hx
theorem Rp.frq {A : Option Addr} {c : Nat} {ps : List Pk} (h : Rp w A c ps) (hs : StayQ B w A) (hf : FrQ B w w') : Rp w' A c ps :=
  ⟨h.le, h.cap, fun h0 => by
    obtain ⟨b, off, rfl, hc⟩ := h.at0 h0
    have key : ∀ o v, w.cell? ⟨b, o, none⟩ = some v → w'.cell? ⟨b, o, none⟩ = some v := fun o v hx => by
      refine (World.cell?_of_block ?_).trans hx
      show w'.heap[b]? = w.heap[b]?
      have hlt : b < w.heap.size := World.block_lt_of_cell? w _ hx
      rcases hs _ rfl with h1 | ⟨cs, fz, h1⟩
      · rw [hf.block b _ (Array.getElem?_eq_getElem hlt) (.inl h1), Array.getElem?_eq_getElem hlt]
      · rw [hf.block b _ h1 (.inr (not_playTy_intQ _ _)), h1]
    exact ⟨b, off, rfl, fun k p hp => ⟨key _ _ (hc k p hp).1, key _ _ (hc k p hp).2⟩⟩⟩
/-- What lies below B stays. -/
theorem FrQ.below {α : Type} {enc : α → Value} {A : Option Addr} {c : Nat} {xs : List α} (h : Rd w enc A c xs) (hs : 0 < xs.length → ∀ x, A = some x → x.block < B) (hf : FrQ B w w') : Rd w' enc A c xs :=
  ⟨h.le, h.cap, fun h0 => by
    obtain ⟨b, off, rfl, hc⟩ := h.at0 h0
    refine ⟨b, off, rfl, fun k x hx => ?_⟩
    refine (World.cell?_of_block ?_).trans (hc k x hx)
    show w'.heap[b]? = w.heap[b]?
    have hlt := World.block_lt_of_cell? w _ (hc k x hx)
    have hlt : b < w.heap.size := hlt
    rw [hf.block b _ (Array.getElem?_eq_getElem hlt) (.inl (hs h0 _ rfl)), Array.getElem?_eq_getElem hlt]⟩
theorem StayQ.own {n m cc base size : Nat} {A : Option Addr} {xs : List Value} (h : w.ownsRow base 115 size (.slice A n cc) m xs) : StayQ B w A := fun x hx => by
  subst hx
  rcases h.2 with ⟨he, _⟩ | ⟨g, cap, cur, he, _, hh, _⟩
  · cases he
  · injection he with e1
    injection e1 with e1
    subst e1
    exact .inr ⟨_, _, hh⟩
theorem FrQ.blk {g : Nat} {t : TypeId} {cs : Array Value} (h : Blk w g t cs) (hf : FrQ B w w') (ht : g < B ∨ t ≠ 47 ∧ t ≠ 39 ∧ t ≠ 129) : Blk w' g t cs :=
  hf.block g _ h (ht.imp id fun ⟨h1, h2, h3⟩ ⟨cs', e, fz, he, hc⟩ => by
    injection he with e1 e2
    subst e2
    rcases hc with hc | hc | hc
    · exact h1 hc
    · exact h2 hc
    · exact h3 hc)
end

/-- The cell of a slice of picks. -/
def slValQ (A : Option Addr) (q : List Pk) (c : Nat) : Value := .slice A q.length c
/-- What the search knows: its rows. -/
structure PKnQ (B : Nat) (w : World) (bp : Nat) (ans : List Int) (used : Nat) (kn : KnP) (stop : Bool) (want : List Pk) : Prop where
  ex : ∃ A c S T D d rows, Blk w bp 129 #[.slice A ans.length c, .int .i64 used, S, T, .bool stop, .slice D want.length d] ∧ Rd w (.int .u8) A c ans ∧ (0 < ans.length → ∀ x, A = some x → x.block < B) ∧
    Rp w D d want ∧ StayQ B w D ∧ w.ownsRow B 47 1 S kn.length rows ∧ w.ownsRow B 39 1 T kn.length (kn.map fun p => .int .u8 p.2) ∧
    (∀ (k : Nat) p, kn[k]? = some p → ∃ A c, rows[k]? = some (slValQ A p.1 c) ∧ Rp w A c p.1 ∧ StayQ B w A)
  base : B ≤ bp
  le : used ≤ ans.length
theorem PKnQ.fr0 {B : Nat} {w w' : World} {bp used : Nat} {ans : List Int} {kn : KnP} {stop : Bool} {want : List Pk} (h : PKnQ B w bp ans used kn stop want) (hf : Fr [] w w') : PKnQ B w' bp ans used kn stop want := by
  obtain ⟨A, c, S, T, D, d, rows, hh, hr, hna, hrD, hsD, hoS, hoT, hel⟩ := h.ex
  refine ⟨⟨A, c, S, T, D, d, rows, hh.fr hf (by simp), hr.fr0 hf, hna, hrD.fr0 hf, hsD.frp (FrQ.of_fr0 hf), own_fr hoS hf (by simp), own_fr hoT hf (by simp), fun k p hp => ?_⟩, h.base, h.le⟩
  obtain ⟨A, c, h1, h2, h3⟩ := hel k p hp
  exact ⟨A, c, h1, h2.fr0 hf, h3.frp (FrQ.of_fr0 hf)⟩
def AskPostQ (B : Nat) (w : World) (bp : Nat) (ans : List Int) (used : Nat) (kn : KnP) (q : List Pk) (e : Ending) (w' : World) : Prop :=
  match askVP ans used kn q with
  | some (v, u, kn') => e = .returned (.bool (v == 2)) ∧ FrQ B w w' ∧ PKnQ B w' bp ans u kn' false []
  | none => e = .returned (.bool false) ∧ FrQ B w w' ∧ PKnQ B w' bp ans used kn true q
def encSlQ (t : Option Addr × Nat × Nat) : Value := .slice t.1 t.2.1 t.2.2
theorem elemSlQ : Elem Tryd.prog 127 47 (.slice none 0 0) 1 24 := ⟨Tryd.underlying127, by kernel_rfl, rfl, by omega, by omega⟩
theorem own_playTyQ {w : World} {B n : Nat} {e : TypeId} {size : Nat} {v : Value} {xs : List Value} (h : w.ownsRow B e size v n xs) (he : e = 47 ∨ e = 39) (k : Nat) (hk : v.ownBlock = some k) : B ≤ k ∧ ∀ o, w.heap[k]? = some o → PlayTyQ o := by
  rcases h.2 with ⟨rfl, _⟩ | ⟨g', cap, cur, rfl, hb, hh, _⟩
  · cases hk
  · have : g' = k := by simpa [Value.ownBlock] using hk
    subst this
    refine ⟨hb, fun o ho => ?_⟩
    rw [hh] at ho
    injection ho with ho
    subst ho
    exact ⟨_, _, _, rfl, he.imp id .inl⟩
theorem lookup_dropQ {kn : KnP} {q : List Pk} {k : Nat} {p : List Pk × Int} (h : kn[k]? = some p) :
    @List.lookup (List Pk) Int instBEqOfDecidableEq q (kn.drop k) = if q = p.1 then some p.2 else @List.lookup (List Pk) Int instBEqOfDecidableEq q (kn.drop (k + 1)) := by
  obtain ⟨hk, rfl⟩ := List.getElem?_eq_some_iff.1 h
  rw [List.drop_eq_getElem_cons hk]
  show (match @BEq.beq (List Pk) instBEqOfDecidableEq q kn[k].1 with | true => some kn[k].2 | false => @List.lookup (List Pk) Int instBEqOfDecidableEq q (kn.drop (k + 1))) = _
  by_cases hq : q = kn[k].1
  · rw [if_pos hq]
    have : (@BEq.beq (List Pk) instBEqOfDecidableEq q kn[k].1) = true := decide_eq_true hq
    rw [this]
  · rw [if_neg hq]
    have : (@BEq.beq (List Pk) instBEqOfDecidableEq q kn[k].1) = false := decide_eq_false hq
    rw [this]
theorem StayQ.ne {B bp : Nat} {w : World} {D : Option Addr} {cs : Array Value} (h : StayQ B w D) (hb : Blk w bp 129 cs) (hB : B ≤ bp) (x : Addr) (hx : D = some x) : x.block ≠ bp := by
  rintro rfl
  rcases h x hx with h1 | ⟨cs', fz, h1⟩
  · omega
  · rw [hb] at h1
    injection h1 with h1
    injection h1 with _ h1
    revert h1
    decide
end Go.Proofs.YtjpbmbonccenfaaDoor

/- append of picks onto picks. -/
namespace Go.Proofs.YtjpbmbonccenfaaDoor
open Go.RowKit
set_option linter.unusedVariables false

theorem Rp.cellsAt {w : World} {b off c : Nat} {qs : List Pk} (hc : ∀ k p, qs[k]? = some p → w.cell? ⟨b, off + k * 2, none⟩ = some (.int .i64 p.1) ∧ w.cell? ⟨b, off + k * 2 + 1, none⟩ = some (.int .i64 p.2)) {j : Nat} {u : Value} (hu : (flat qs)[j]? = some u) : w.cell? ⟨b, off + j, none⟩ = some u := by
  rcases (show j = j / 2 * 2 ∨ j = j / 2 * 2 + 1 by omega) with h | h
  · rw [h, flat_at0] at hu
    rcases hq : qs[j / 2]? with _ | p
    · rw [hq] at hu; cases hu
    · rw [hq] at hu
      injection hu with hu
      subst hu
      rw [h]
      exact (hc _ p hq).1
  · rw [h, flat_at1] at hu
    rcases hq : qs[j / 2]? with _ | p
    · rw [hq] at hu; cases hu
    · rw [hq] at hu
      injection hu with hu
      subst hu
      rw [h]
      exact (hc _ p hq).2
theorem flat_one {qs : List Pk} {u : Value} (h : u ∈ flat qs) : u.oneCell' = true := by
  unfold flat at h
  obtain ⟨p, _, hp⟩ := List.mem_flatMap.1 h
  simp at hp
  rcases hp with rfl | rfl <;> rfl
theorem run_append_pkG {P : Program} {t e : TypeId} {z : Value} (E : Elem P t e z 2 16) {w : World} {ty : TypeId} {base n : Nat} {v : Value} {xs : List Value} (hown : w.ownsRow base e 2 v n xs) {A : Option Addr} {c : Nat} {qs : List Pk} (hr : Rp w A c qs)
    (hb : (n + qs.length) * 16 ≤ 140737488355328) (hbase : base ≤ w.heap.size) :
    ∃ A' c' w', (Builtin.append_ #[t, t] ty #[v, .slice A qs.length c]).run P w = .ok (.slice A' (n + qs.length) c') w' ∧ w'.ownsRow base e 2 (.slice A' (n + qs.length) c') (n + qs.length) (xs ++ flat qs) ∧
      w.grownBy w' v.ownBlock ∧ ((Value.slice A' (n + qs.length) c').ownBlock = v.ownBlock ∨ (Value.slice A' (n + qs.length) c').ownBlock = some w.heap.size) := by
  obtain ⟨i, hi, hz, hsz, hby⟩ := info_parts E.inf
  rcases Nat.eq_zero_or_pos qs.length with h0 | h0
  · have hn : qs = [] := List.eq_nil_of_length_eq_zero h0
    subst hn
    obtain ⟨A', c', rfl⟩ := own_form hown
    refine ⟨A', c', w, ?_, by simpa [flat] using hown, World.grownBy.refl w _, .inl rfl⟩
    rcases A with _ | ad
    · rcases hown.2 with ⟨he, hz0⟩ | ⟨g, cap, cur, he, _, _, hnc, _⟩
      · injection he with e1 e2 e3
        subst e1 e3
        simp [Builtin.append_, run_underlying E.und, sizeOf, typeInfo, hi, Builtin.lenOf, Builtin.firstCells, hz0]
      · injection he with e1 e2 e3
        subst e1 e3
        simp [Builtin.append_, run_underlying E.und, sizeOf, typeInfo, hi, Builtin.lenOf, Builtin.firstCells, hnc, storeCells]
    · rcases hown.2 with ⟨he, hz0⟩ | ⟨g, cap, cur, he, _, _, hnc, _⟩
      · injection he with e1 e2 e3
        subst e1 e3
        simp [Builtin.append_, run_underlying E.und, sizeOf, typeInfo, hi, Builtin.lenOf, Builtin.firstCells, hz0, loadCells, loadCellsFrom]
      · injection he with e1 e2 e3
        subst e1 e3
        simp [Builtin.append_, run_underlying E.und, sizeOf, typeInfo, hi, Builtin.lenOf, Builtin.firstCells, hnc, storeCells, loadCells, loadCellsFrom]
  · obtain ⟨b, off, rfl, hc⟩ := hr.at0 h0
    have hm : n + qs.length ≤ maxLen := by unfold maxLen; omega
    obtain ⟨v', w', hrun, h2, h3, _, h5⟩ := run_append_own_at (P := P) w base t ty e i z 2 16 E.und hi hz hsz hby E.one E.pos v n xs hown ⟨b, off, none⟩ qs.length c (flat qs) (flat_length qs)
      (fun j u hu => by
        rw [Addr.add_lit]
        exact Rp.cellsAt (c := c) hc hu) (fun u hu => flat_one hu) hm hb hbase
    obtain ⟨A', c', rfl⟩ := own_form h2
    exact ⟨A', c', w', hrun, h2, h3, h5⟩
theorem run_append_pk {w : World} {ty : TypeId} {base n : Nat} {v : Value} {xs : List Value} (hown : w.ownsRow base 115 2 v n xs) {A : Option Addr} {c : Nat} {qs : List Pk} (hr : Rp w A c qs)
    (hb : (n + qs.length) * 16 ≤ 140737488355328) (hbase : base ≤ w.heap.size) :
    ∃ A' c' w', (Builtin.append_ #[47, 47] ty #[v, .slice A qs.length c]).run Tryd.prog w = .ok (.slice A' (n + qs.length) c') w' ∧ w'.ownsRow base 115 2 (.slice A' (n + qs.length) c') (n + qs.length) (xs ++ flat qs) ∧
      w.grownBy w' v.ownBlock ∧ ((Value.slice A' (n + qs.length) c').ownBlock = v.ownBlock ∨ (Value.slice A' (n + qs.length) c').ownBlock = some w.heap.size) := run_append_pkG elemPicks hown hr hb hbase
theorem wpList_append_pks {w : World} {ops : Array Oper} {rest : List Oper} {o : Oper} {a : Act} {Q : Exit → Act → World → Prop} (hgd : o.guard = none) (s x : Operand)
    (ho : o.op = .call { callee := .builtin .append, args := #[s, x], argTypes := #[47, 47] })
    {base n : Nat} (v : Value) (xs : List Value) (hs : a.eval s = v) (hown : w.ownsRow base 115 2 v n xs)
    (A : Option Addr) (c : Nat) (qs : List Pk) (hx : a.eval x = .slice A qs.length c) (hr : Rp w A c qs)
    (hb : (n + qs.length) * 16 ≤ 140737488355328) (hbase : base ≤ w.heap.size)
    (h : ∀ A' c' w', w'.ownsRow base 115 2 (.slice A' (n + qs.length) c') (n + qs.length) (xs ++ flat qs) → w.grownBy w' v.ownBlock →
      ((Value.slice A' (n + qs.length) c').ownBlock = v.ownBlock ∨ (Value.slice A' (n + qs.length) c').ownBlock = some w.heap.size) → wpList Tryd.prog ops Q rest (a.put o.dst (.slice A' (n + qs.length) c')) w') :
    wpList Tryd.prog ops Q (o :: rest) a w := by
  refine wpList_plain hgd fun K hK => ?_
  obtain ⟨A', c', w', hrun, h2, h3, h5⟩ := run_append_pk (ty := o.type) hown hr hb hbase
  unfold Oper.wp execOp
  simp only [ho, resolve, invoke, builtin, Sem.run_bind, Sem.run_pure, Result.andThen_ok, List.map_toArray, List.map_cons, List.map_nil, hs, hx, hrun]
  exact hK _ _ (h A' c' w' h2 h3 h5)
theorem step_append_pks {ops : Array Oper} {o : Oper} {a : Act} {w : World} {K : Act → World → Prop} {Q : Exit → Act → World → Prop} {E : Prop} (hgd : o.guard = none) (s x : Operand)
    (ho : o.op = .call { callee := .builtin .append, args := #[s, x], argTypes := #[47, 47] })
    {base n : Nat} (v : Value) (xs : List Value) (hs : a.eval s = v) (hown : w.ownsRow base 115 2 v n xs)
    (A : Option Addr) (c : Nat) (qs : List Pk) (hx : a.eval x = .slice A qs.length c) (hr : Rp w A c qs)
    (hb : (n + qs.length) * 16 ≤ 140737488355328) (hbase : base ≤ w.heap.size)
    (h : ∀ A' c' w', w'.ownsRow base 115 2 (.slice A' (n + qs.length) c') (n + qs.length) (xs ++ flat qs) → w.grownBy w' v.ownBlock →
      ((Value.slice A' (n + qs.length) c').ownBlock = v.ownBlock ∨ (Value.slice A' (n + qs.length) c').ownBlock = some w.heap.size) → K (a.put o.dst (.slice A' (n + qs.length) c')) w') :
    if Region.wanted o (yielded ops a.tmps) = true then Oper.wp Tryd.prog o a w K Q else E := by
  have hw : Region.wanted o (yielded ops a.tmps) = true := by simp [Region.wanted, hgd]
  rw [if_pos hw]
  obtain ⟨A', c', w', hrun, h2, h3, h5⟩ := run_append_pk (ty := o.type) hown hr hb hbase
  unfold Oper.wp execOp
  simp only [ho, resolve, invoke, builtin, Sem.run_bind, Sem.run_pure, Result.andThen_ok, List.map_toArray, List.map_cons, List.map_nil, hs, hx, hrun]
  exact h A' c' w' h2 h3 h5
end Go.Proofs.YtjpbmbonccenfaaDoor
