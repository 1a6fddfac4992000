/- Texts of this seat, one behind the other: Ask, PickA, Ask2, Ask3. -/
import Derived.Test.YtjpbmbonccenfaaDoort13
import Derived.Test.YtjpbmbonccenfaaDoort115
import Derived.Deep.RegionLaw
import Derived.Test.YtjpbmbonccenfaaDoort114
/- The reference's ask: each set once. -/
namespace Go.Proofs.YtjpbmbonccenfaaDoor
open Go.RowKit
set_option linter.unusedVariables false

/-- append onto a slice of the call's own, as one step of a region. -/
theorem step_append_rd {α : Type} {P : Program} {ops : Array Oper} {o : Oper} {a : Act} {w : World} {K : Act → World → Prop} {Q : Exit → Act → World → Prop} {E : Prop} (hgd : o.guard = none) (s x : Operand) (t : TypeId)
    (ho : o.op = .call { callee := .builtin .append, args := #[s, x], argTypes := #[t, t] })
    {e : TypeId} {z : Value} {bytes base n : Nat} (E1 : Elem P t e z 1 bytes) (v : Value) (xs : List Value) (hs : a.eval s = v) (hown : w.ownsRow base e 1 v n xs)
    (A : Option Addr) (c : Nat) (news : List α) (enc : α → Value) (hx : a.eval x = .slice A news.length c) (hr : Rd w enc A c news) (h1 : ∀ y, (enc y).oneCell' = true)
    (hb : (n + news.length) * bytes ≤ 140737488355328) (hbase : base ≤ w.heap.size)
    (h : ∀ A' c' w', w'.ownsRow base e 1 (.slice A' (n + news.length) c') (n + news.length) (xs ++ news.map enc) → w.grownBy w' v.ownBlock →
      ((Value.slice A' (n + news.length) c').ownBlock = v.ownBlock ∨ (Value.slice A' (n + news.length) c').ownBlock = some w.heap.size) → K (a.put o.dst (.slice A' (n + news.length) c')) w') :
    if Region.wanted o (yielded ops a.tmps) = true then Oper.wp P o a w K Q else E := by
  have hw : Region.wanted o (yielded ops a.tmps) = true := by simp [Region.wanted, hgd]
  rw [if_pos hw]
  obtain ⟨A', c', w', hrun, h2, h3, h5⟩ := run_append_rd (P := P) (ty := o.type) E1 hown hr h1 hb hbase
  unfold Oper.wp execOp
  simp only [ho, resolve, invoke, builtin, Sem.run_bind, Sem.run_pure, Result.andThen_ok, List.map_toArray, List.map_cons, List.map_nil, hs, hx, hrun]
  exact h A' c' w' h2 h3 h5

/-- The cell of a slice of numbers. -/
def slVal (A : Option Addr) (q : List Int) (c : Nat) : Value := .slice A q.length c
/-- What a play knows: its rows. -/
structure PKn (B : Nat) (w : World) (bp : Nat) (ans : List Int) (used : Nat) (kn : Kn) (stop : Bool) (want : List Int) : Prop where
  ex : ∃ A c S T D d rows, Blk w bp 108 #[.slice A ans.length c, .int .i64 used, S, T, .bool stop, .slice D want.length d] ∧ Rd w (.int .u8) A c ans ∧ (0 < ans.length → ∀ x, A = some x → x.block < B) ∧
    Rd w (.int .i64) D d want ∧ Stay B w D ∧ w.ownsRow B 22 1 S kn.length rows ∧ w.ownsRow B 39 1 T kn.length (kn.map fun p => .int .u8 p.2) ∧
    (∀ (k : Nat) p, kn[k]? = some p → ∃ A c, rows[k]? = some (slVal A p.1 c) ∧ Rd w (.int .i64) A c p.1 ∧ Stay B w A)
  base : B ≤ bp
  le : used ≤ ans.length

theorem PKn.fr0 {B : Nat} {w w' : World} {bp used : Nat} {ans : List Int} {kn : Kn} {stop : Bool} {want : List Int} (h : PKn B w bp ans used kn stop want) (hf : Fr [] w w') : PKn B w' bp ans used kn stop want := by
  obtain ⟨A, c, S, T, D, d, rows, hh, hr, hna, hrD, hsD, hoS, hoT, hel⟩ := h.ex
  refine ⟨⟨A, c, S, T, D, d, rows, hh.fr hf (by simp), hr.fr0 hf, hna, hrD.fr0 hf, hsD.frp (FrP.of_fr0 hf), own_fr hoS hf (by simp), own_fr hoT hf (by simp), fun k p hp => ?_⟩, h.base, h.le⟩
  obtain ⟨A, c, h1, h2, h3⟩ := hel k p hp
  exact ⟨A, c, h1, h2.fr0 hf, h3.frp (FrP.of_fr0 hf)⟩

def NextPost2 (w : World) (bp : Nat) (A : Option Addr) (c : Nat) (ans : List Int) (used : Nat) (S T : Value) (D : Option Addr) (d a : Int) (e : Ending) (w' : World) : Prop :=
  e = .returned (.int .u8 (told a)) ∧ Fr [bp] w w' ∧ Blk w' bp 108 #[.slice A ans.length c, .int .i64 (used + 1 : Nat), S, T, .bool false, .slice D 0 d.toNat]

set_option maxHeartbeats 800000 in
theorem next2_some (bp : Nat) (A : Option Addr) (c : Nat) (ans : List Int) (used : Nat) (S T : Value) (D : Option Addr) (d : Nat) (C : Value) (a : Int) (w : World)
    (hh : Blk w bp 108 #[.slice A ans.length c, .int .i64 used, S, T, .bool false, .slice D 0 d]) (hr : Rd w (.int .u8) A c ans) (hna : 0 < ans.length → ∀ x, A = some x → x.block < bp) (ha : ans[used]? = some a) :
    Calls Tryd.prog 105 #[.pointer (some ⟨bp, 0, none⟩), C] w (NextPost2 w bp A c ans used S T D d a) := by
  have hu : used < ans.length := (List.getElem?_eq_some_iff.1 ha).1
  have hbd := hr.bound
  obtain ⟨b1, o1, x, rfl, hx, hc⟩ := hr.at_ hu
  obtain rfl : a = x := by have := ha.symm.trans hx.out; simpa using this
  clear ha
  have c0 : w.cell? ⟨bp, 0, none⟩ = some (.slice (some ⟨b1, o1, none⟩) ans.length c) := hh.cell 0 rfl
  have c1 : w.cell? ⟨bp, 1, none⟩ = some (.int .i64 used) := hh.cell 1 rfl
  have f1 : w.frozen? ⟨bp, 1, none⟩ = false := hh.frozen 1
  have hne := hna (by omega) _ rfl
  have hne' : b1 ≠ bp := Nat.ne_of_lt hne
  have HH := Lib.hid hh
  clear hh
  go_enter Tryd.func105, Tryd.ntmps105
  go_wp2
  go_quiet (fail)
  go_wp2
  go_quiet ((go_at_call 115; first | exact quiet_of (told_any _ _) | exact quiet_add (told_any _ _)))
  go_wp2
  go_ret
  exact ⟨rfl, (by repeat (first | exact Fr.refl _ _ | assumption | apply Fr.drewN | apply Fr.drew | apply Fr.alloc | refine Fr.setCell ?_ (by simp) _)), by simpa using ((HH.out.set_ 1 _).drewN _).drewN _⟩
def StopPost2 (w : World) (bp : Nat) (A : Option Addr) (c : Nat) (ans : List Int) (used : Nat) (S T : Value) (want : List Int) (e : Ending) (w' : World) : Prop :=
  e = .returned (.int .u8 0) ∧ Fr [bp] w w' ∧ ∃ D d, Blk w' bp 108 #[.slice A ans.length c, .int .i64 used, S, T, .bool true, .slice D want.length d] ∧ w'.ownsRow w.heap.size 3 1 (.slice D want.length d) want.length (want.map (.int .i64))
set_option maxHeartbeats 800000 in
theorem next2_none (bp : Nat) (A : Option Addr) (c : Nat) (ans : List Int) (used : Nat) (S T : Value) (D : Option Addr) (d : Nat) (C : Option Addr) (cc : Nat) (cs : List Int) (w : World)
    (hh : Blk w bp 108 #[.slice A ans.length c, .int .i64 used, S, T, .bool false, .slice D 0 d]) (hbd : ans.length ≤ 9223372036854775807) (hu : ans.length ≤ used)
    (hC : Rd w (.int .i64) C cc cs) (hlen : cs.length ≤ 1000000) (hCn : 0 < cs.length → ∀ a, C = some a → a.block ≠ bp) :
    Calls Tryd.prog 105 #[.pointer (some ⟨bp, 0, none⟩), .slice C cs.length cc] w (StopPost2 w bp A c ans used S T cs) := by
  have c0 : w.cell? ⟨bp, 0, none⟩ = some (.slice A ans.length c) := hh.cell 0 rfl
  have c1 : w.cell? ⟨bp, 1, none⟩ = some (.int .i64 used) := hh.cell 1 rfl
  have c4 : w.cell? ⟨bp, 4, none⟩ = some (.bool false) := hh.cell 4 rfl
  have f4 : w.frozen? ⟨bp, 4, none⟩ = false := hh.frozen 4
  have hlt := hh.lt
  have HH := Lib.hid hh
  clear hh
  go_enter Tryd.func105, Tryd.ntmps105
  go_wp2
  go_quiet (fail)
  go_wp2_with (at_builtin; refine wpList_append_rd rfl (.tmp 19) (.tmp 20) _ rfl elemInts _ _ rfl (own_drewN (own_empty _ _ w.heap.size (by simp)) _) _ _ cs (.int .i64) rfl (((hC.setCell (by simpa using hCn) _).alloc _).drewN _) one_i64 (by omega) (by simp) ?_; intro A2 c2 w2 hown2 hg2 hat2; have HB := Lib.hid ((((HH.out.set_ 4 (.bool true)).alloc _).drewN _).grown hg2 (some_ne_of_lt hlt rfl)); have c5 := HB.out.cell 5 rfl; have f5 := HB.out.frozen 5)
  go_ret
  have hw2 := ((((Fr.refl [bp] w).setCell (.inl (by simp)) _).alloc _).drewN _).app (own_drewN (own_empty _ _ w.heap.size (by simp)) _) (Nat.le_refl _) hg2
  refine ⟨rfl, hw2.setCell (.inl (by simp)) _, A2, c2, by simpa using HB.out.set_ 5 _, ?_⟩
  have := own_fr hown2 ((Fr.refl [bp] w2).setCell (p := ⟨bp, 5, none⟩) (.inl (by simp)) (.slice A2 (0 + cs.length) c2)) (fun k hk => by have := (hown2.lt k hk).1; simp; omega)
  simpa using this
end Go.Proofs.YtjpbmbonccenfaaDoor

/- append of picks onto picks. -/
namespace Go.Proofs.YtjpbmbonccenfaaDoor
open Go.RowKit
set_option linter.unusedVariables false

theorem Rp.cellsAt {w : World} {b off c : Nat} {qs : List Pk} (hc : ∀ k p, qs[k]? = some p → w.cell? ⟨b, off + k * 2, none⟩ = some (.int .i64 p.1) ∧ w.cell? ⟨b, off + k * 2 + 1, none⟩ = some (.int .i64 p.2)) {j : Nat} {u : Value} (hu : (flat qs)[j]? = some u) : w.cell? ⟨b, off + j, none⟩ = some u := by
  rcases (show j = j / 2 * 2 ∨ j = j / 2 * 2 + 1 by omega) with h | h
  · rw [h, flat_at0] at hu
    rcases hq : qs[j / 2]? with _ | p
    · rw [hq] at hu; cases hu
    · rw [hq] at hu
      injection hu with hu
      subst hu
      rw [h]
      exact (hc _ p hq).1
  · rw [h, flat_at1] at hu
    rcases hq : qs[j / 2]? with _ | p
    · rw [hq] at hu; cases hu
    · rw [hq] at hu
      injection hu with hu
      subst hu
      rw [h]
      exact (hc _ p hq).2
theorem flat_one {qs : List Pk} {u : Value} (h : u ∈ flat qs) : u.oneCell' = true := by
  unfold flat at h
  obtain ⟨p, _, hp⟩ := List.mem_flatMap.1 h
  simp at hp
  rcases hp with rfl | rfl <;> rfl
theorem run_append_pkG {P : Program} {t e : TypeId} {z : Value} (E : Elem P t e z 2 16) {w : World} {ty : TypeId} {base n : Nat} {v : Value} {xs : List Value} (hown : w.ownsRow base e 2 v n xs) {A : Option Addr} {c : Nat} {qs : List Pk} (hr : Rp w A c qs)
    (hb : (n + qs.length) * 16 ≤ 140737488355328) (hbase : base ≤ w.heap.size) :
    ∃ A' c' w', (Builtin.append_ #[t, t] ty #[v, .slice A qs.length c]).run P w = .ok (.slice A' (n + qs.length) c') w' ∧ w'.ownsRow base e 2 (.slice A' (n + qs.length) c') (n + qs.length) (xs ++ flat qs) ∧
      w.grownBy w' v.ownBlock ∧ ((Value.slice A' (n + qs.length) c').ownBlock = v.ownBlock ∨ (Value.slice A' (n + qs.length) c').ownBlock = some w.heap.size) := by
  obtain ⟨i, hi, hz, hsz, hby⟩ := info_parts E.inf
  rcases Nat.eq_zero_or_pos qs.length with h0 | h0
  · have hn : qs = [] := List.eq_nil_of_length_eq_zero h0
    subst hn
    obtain ⟨A', c', rfl⟩ := own_form hown
    refine ⟨A', c', w, ?_, by simpa [flat] using hown, World.grownBy.refl w _, .inl rfl⟩
    rcases A with _ | ad
    · rcases hown.2 with ⟨he, hz0⟩ | ⟨g, cap, cur, he, _, _, hnc, _⟩
      · injection he with e1 e2 e3
        subst e1 e3
        simp [Builtin.append_, run_underlying E.und, sizeOf, typeInfo, hi, Builtin.lenOf, Builtin.firstCells, hz0]
      · injection he with e1 e2 e3
        subst e1 e3
        simp [Builtin.append_, run_underlying E.und, sizeOf, typeInfo, hi, Builtin.lenOf, Builtin.firstCells, hnc, storeCells]
    · rcases hown.2 with ⟨he, hz0⟩ | ⟨g, cap, cur, he, _, _, hnc, _⟩
      · injection he with e1 e2 e3
        subst e1 e3
        simp [Builtin.append_, run_underlying E.und, sizeOf, typeInfo, hi, Builtin.lenOf, Builtin.firstCells, hz0, loadCells, loadCellsFrom]
      · injection he with e1 e2 e3
        subst e1 e3
        simp [Builtin.append_, run_underlying E.und, sizeOf, typeInfo, hi, Builtin.lenOf, Builtin.firstCells, hnc, storeCells, loadCells, loadCellsFrom]
  · obtain ⟨b, off, rfl, hc⟩ := hr.at0 h0
    have hm : n + qs.length ≤ maxLen := by unfold maxLen; omega
    obtain ⟨v', w', hrun, h2, h3, _, h5⟩ := run_append_own_at (P := P) w base t ty e i z 2 16 E.und hi hz hsz hby E.one E.pos v n xs hown ⟨b, off, none⟩ qs.length c (flat qs) (flat_length qs)
      (fun j u hu => by
        rw [Addr.add_lit]
        exact Rp.cellsAt (c := c) hc hu) (fun u hu => flat_one hu) hm hb hbase
    obtain ⟨A', c', rfl⟩ := own_form h2
    exact ⟨A', c', w', hrun, h2, h3, h5⟩
theorem run_append_pk {w : World} {ty : TypeId} {base n : Nat} {v : Value} {xs : List Value} (hown : w.ownsRow base 115 2 v n xs) {A : Option Addr} {c : Nat} {qs : List Pk} (hr : Rp w A c qs)
    (hb : (n + qs.length) * 16 ≤ 140737488355328) (hbase : base ≤ w.heap.size) :
    ∃ A' c' w', (Builtin.append_ #[47, 47] ty #[v, .slice A qs.length c]).run Tryd.prog w = .ok (.slice A' (n + qs.length) c') w' ∧ w'.ownsRow base 115 2 (.slice A' (n + qs.length) c') (n + qs.length) (xs ++ flat qs) ∧
      w.grownBy w' v.ownBlock ∧ ((Value.slice A' (n + qs.length) c').ownBlock = v.ownBlock ∨ (Value.slice A' (n + qs.length) c').ownBlock = some w.heap.size) := run_append_pkG elemPicks hown hr hb hbase
theorem wpList_append_pks {w : World} {ops : Array Oper} {rest : List Oper} {o : Oper} {a : Act} {Q : Exit → Act → World → Prop} (hgd : o.guard = none) (s x : Operand)
    (ho : o.op = .call { callee := .builtin .append, args := #[s, x], argTypes := #[47, 47] })
    {base n : Nat} (v : Value) (xs : List Value) (hs : a.eval s = v) (hown : w.ownsRow base 115 2 v n xs)
    (A : Option Addr) (c : Nat) (qs : List Pk) (hx : a.eval x = .slice A qs.length c) (hr : Rp w A c qs)
    (hb : (n + qs.length) * 16 ≤ 140737488355328) (hbase : base ≤ w.heap.size)
    (h : ∀ A' c' w', w'.ownsRow base 115 2 (.slice A' (n + qs.length) c') (n + qs.length) (xs ++ flat qs) → w.grownBy w' v.ownBlock →
      ((Value.slice A' (n + qs.length) c').ownBlock = v.ownBlock ∨ (Value.slice A' (n + qs.length) c').ownBlock = some w.heap.size) → wpList Tryd.prog ops Q rest (a.put o.dst (.slice A' (n + qs.length) c')) w') :
    wpList Tryd.prog ops Q (o :: rest) a w := by
  refine wpList_plain hgd fun K hK => ?_
  obtain ⟨A', c', w', hrun, h2, h3, h5⟩ := run_append_pk (ty := o.type) hown hr hb hbase
  unfold Oper.wp execOp
  simp only [ho, resolve, invoke, builtin, Sem.run_bind, Sem.run_pure, Result.andThen_ok, List.map_toArray, List.map_cons, List.map_nil, hs, hx, hrun]
  exact hK _ _ (h A' c' w' h2 h3 h5)
theorem step_append_pks {ops : Array Oper} {o : Oper} {a : Act} {w : World} {K : Act → World → Prop} {Q : Exit → Act → World → Prop} {E : Prop} (hgd : o.guard = none) (s x : Operand)
    (ho : o.op = .call { callee := .builtin .append, args := #[s, x], argTypes := #[47, 47] })
    {base n : Nat} (v : Value) (xs : List Value) (hs : a.eval s = v) (hown : w.ownsRow base 115 2 v n xs)
    (A : Option Addr) (c : Nat) (qs : List Pk) (hx : a.eval x = .slice A qs.length c) (hr : Rp w A c qs)
    (hb : (n + qs.length) * 16 ≤ 140737488355328) (hbase : base ≤ w.heap.size)
    (h : ∀ A' c' w', w'.ownsRow base 115 2 (.slice A' (n + qs.length) c') (n + qs.length) (xs ++ flat qs) → w.grownBy w' v.ownBlock →
      ((Value.slice A' (n + qs.length) c').ownBlock = v.ownBlock ∨ (Value.slice A' (n + qs.length) c').ownBlock = some w.heap.size) → K (a.put o.dst (.slice A' (n + qs.length) c')) w') :
    if Region.wanted o (yielded ops a.tmps) = true then Oper.wp Tryd.prog o a w K Q else E := by
  have hw : Region.wanted o (yielded ops a.tmps) = true := by simp [Region.wanted, hgd]
  rw [if_pos hw]
  obtain ⟨A', c', w', hrun, h2, h3, h5⟩ := run_append_pk (ty := o.type) hown hr hb hbase
  unfold Oper.wp execOp
  simp only [ho, resolve, invoke, builtin, Sem.run_bind, Sem.run_pure, Result.andThen_ok, List.map_toArray, List.map_cons, List.map_nil, hs, hx, hrun]
  exact h A' c' w' h2 h3 h5
end Go.Proofs.YtjpbmbonccenfaaDoor

/- The reference's ask: what has been asked lies in the play. -/
namespace Go.Proofs.YtjpbmbonccenfaaDoor
open Go.RowKit
set_option linter.unusedVariables false

def AskPost (B : Nat) (w : World) (bp : Nat) (ans : List Int) (used : Nat) (kn : Kn) (q : List Int) (e : Ending) (w' : World) : Prop :=
  match askV ans used kn q with
  | some (v, u, kn') => e = .returned (.int .u8 v) ∧ FrP B w w' ∧ PKn B w' bp ans u kn' false []
  | none => e = .returned (.int .u8 0) ∧ FrP B w w' ∧ PKn B w' bp ans used kn true q

/-- A block that is none of the play's own. -/
def Off (w : World) (bp g : Nat) : Prop := ∃ x0 x1 S T x4 x5, Blk w bp 108 #[x0, x1, S, T, x4, x5] ∧ g < w.heap.size ∧ g ≠ bp ∧ S.ownBlock ≠ some g ∧ T.ownBlock ≠ some g
/-- Such blocks are as they were, and are still none of the play's own. -/
def Kept (w w' : World) (bp : Nat) : Prop := ∀ g, Off w bp g → Off w' bp g ∧ w'.heap[g]? = w.heap[g]?
theorem Kept.refl (w : World) (bp : Nat) : Kept w w bp := fun _ h => ⟨h, rfl⟩
theorem Kept.drewN (w : World) (bp n : Nat) : Kept w (w.drewN n) bp := fun _ h => ⟨h, rfl⟩
theorem Kept.trans {a b c : World} {bp : Nat} (h : Kept a b bp) (k : Kept b c bp) : Kept a c bp := fun g hg => by
  obtain ⟨h1, h2⟩ := h g hg
  obtain ⟨h3, h4⟩ := k g h1
  exact ⟨h3, h4.trans h2⟩
theorem Kept.of {w w1 : World} {bp : Nat} {a0 a1 S T a4 a5 b0 b1 S' T' b4 b5 : Value} (hh : Blk w bp 108 #[a0, a1, S, T, a4, a5]) (hf : Fr (bp :: (S.ownBlock.toList ++ T.ownBlock.toList)) w w1) (hb : Blk w1 bp 108 #[b0, b1, S', T', b4, b5])
    (hS : S'.ownBlock = S.ownBlock ∨ ∃ k, S'.ownBlock = some k ∧ w.heap.size ≤ k) (hT : T'.ownBlock = T.ownBlock ∨ ∃ k, T'.ownBlock = some k ∧ w.heap.size ≤ k) : Kept w w1 bp := fun g ⟨x0, x1, S0, T0, x4, x5, h1, h2, h3, h4, h5⟩ => by
  have he := Option.some.inj ((show w.heap[bp]? = _ from h1).symm.trans hh)
  injection he with he
  simp only [Array.mk.injEq, List.cons.injEq] at he
  obtain ⟨rfl, rfl, rfl, rfl, rfl, rfl, _⟩ := he
  have key : ∀ {V V' : Value}, (V'.ownBlock = V.ownBlock ∨ ∃ k, V'.ownBlock = some k ∧ w.heap.size ≤ k) → V.ownBlock ≠ some g → V'.ownBlock ≠ some g := by
    rintro V V' (h | ⟨k, h, hk⟩) hn
    · rw [h]; exact hn
    · rw [h]; simp; omega
  refine ⟨⟨_, _, _, _, _, _, hb, Nat.lt_of_lt_of_le h2 hf.size, h3, key hS h4, key hT h5⟩, hf.block g h2 ?_⟩
  simp [h3, h4, h5]
theorem Off.fr0 {w w' : World} {bp g : Nat} (h : Off w bp g) (hf : Fr [] w w') : Off w' bp g := by
  obtain ⟨x0, x1, S, T, x4, x5, h1, h2, h3, h4, h5⟩ := h
  exact ⟨x0, x1, S, T, x4, x5, h1.fr hf (by simp), Nat.lt_of_lt_of_le h2 hf.size, h3, h4, h5⟩
theorem Kept.fr0 {w w' : World} {bp : Nat} (hf : Fr [] w w') : Kept w w' bp := fun g h => ⟨h.fr0 hf, hf.block g (by obtain ⟨_, _, _, _, _, _, _, h2, _⟩ := h; exact h2) (by simp)⟩

/-- A block that is no row's of what has been asked. -/
def RowsOff (w : World) (bp g : Nat) : Prop := ∀ x0 x1 S T x4 x5, Blk w bp 108 #[x0, x1, S, T, x4, x5] → ∀ b n c, S = .slice (some ⟨b, 0, none⟩) n c → ∀ k a n' c', k < n → w.cell? ⟨b, k, none⟩ = some (.slice (some a) n' c') → a.block ≠ g
def KeptR (w w' : World) (bp : Nat) : Prop := ∀ g, g < w.heap.size → RowsOff w bp g → RowsOff w' bp g
theorem blk6_inj {w : World} {bp : Nat} {t : TypeId} {a0 a1 a2 a3 a4 a5 b0 b1 b2 b3 b4 b5 : Value} (h : Blk w bp t #[a0, a1, a2, a3, a4, a5]) (k : Blk w bp t #[b0, b1, b2, b3, b4, b5]) : a2 = b2 ∧ a3 = b3 := by
  have he := Option.some.inj ((show w.heap[bp]? = _ from h).symm.trans k)
  injection he with he
  simp only [Array.mk.injEq, List.cons.injEq] at he
  exact ⟨he.2.2.1, he.2.2.2.1⟩
section
variable {w w' : World} {bp g B n : Nat} {x0 x1 S T x4 x5 : Value} {rows : List Value}
theorem RowsOff.at_rows (h : RowsOff w bp g) (hh : Blk w bp 108 #[x0, x1, S, T, x4, x5]) (ho : w.ownsRow B 22 1 S n rows) (k : Nat) (a : Addr) (n' c' : Nat) (hk : rows[k]? = some (.slice (some a) n' c')) : a.block ≠ g := by
  have hl : rows.length = n := by have := ho.1; omega
  have hkn : k < n := by have := (List.getElem?_eq_some_iff.1 hk).1; omega
  obtain ⟨A, c, rfl⟩ := own_form ho
  obtain ⟨g1, rfl, _, _⟩ := own_some ho (by omega)
  exact h _ _ _ _ _ _ hh g1 n c rfl k a n' c' hkn ((ho.cellAt k (by omega)).trans hk)
theorem RowsOff.of (hh : Blk w bp 108 #[x0, x1, S, T, x4, x5]) (ho : w.ownsRow B 22 1 S n rows) (h : ∀ (k : Nat) (a : Addr) (n' c' : Nat), rows[k]? = some (.slice (some a) n' c') → a.block ≠ g) : RowsOff w bp g := by
  intro y0 y1 S' T' y4 y5 hh' b m c hS k a n' c' hk hc
  obtain ⟨e1, _⟩ := blk6_inj hh hh'
  subst e1 hS
  have hm : m = n := by
    rcases ho.2 with ⟨he, _⟩ | ⟨g', cap, cur, he, _⟩
    · cases he
    · injection he
  subst hm
  exact h k a n' c' ((ho.cellAt k (by omega)).symm.trans hc)
/-- A new play has asked nothing. -/
theorem RowsOff.nil_ (hh : Blk w bp 108 #[x0, x1, .slice none 0 0, T, x4, x5]) : RowsOff w bp g := by
  intro y0 y1 S' T' y4 y5 hh' b m c hS
  obtain ⟨e1, _⟩ := blk6_inj hh hh'
  subst e1
  cases hS
theorem KeptR.fr (hh : Blk w bp 108 #[x0, x1, S, T, x4, x5]) (ho : w.ownsRow B 22 1 S n rows) {y0 y1 T' y4 y5 : Value} (hh' : Blk w' bp 108 #[y0, y1, S, T', y4, y5]) (ho' : w'.ownsRow B 22 1 S n rows) : KeptR w w' bp :=
  fun g _ h => RowsOff.of hh' ho' (h.at_rows hh ho)
theorem KeptR.trans {a b c : World} (hs : a.heap.size ≤ b.heap.size) (h : KeptR a b bp) (k : KeptR b c bp) : KeptR a c bp := fun g hg hr => k g (Nat.lt_of_lt_of_le hg hs) (h g hg hr)
end

def encSl (t : Option Addr × Nat × Nat) : Value := .slice t.1 t.2.1 t.2.2
theorem elemSl : Elem Tryd.prog 24 22 (.slice none 0 0) 1 24 := ⟨Tryd.underlying24, by kernel_rfl, rfl, by omega, by omega⟩
theorem elemVe : Elem Tryd.prog 32 39 (.int .u8 0) 1 1 := ⟨Tryd.underlying32, by kernel_rfl, rfl, by omega, by omega⟩
theorem own_ne_blk {w : World} {B g n : Nat} {e t : TypeId} {size : Nat} {v : Value} {xs : List Value} {cs : Array Value} (h : w.ownsRow B e size v n xs) (hb : Blk w g t cs) (ht : t ≠ e) (k : Nat) (hk : v.ownBlock = some k) : k ≠ g := by
  rintro rfl
  rcases h.2 with ⟨rfl, _⟩ | ⟨g', cap, cur, rfl, _, hh, _⟩
  · cases hk
  · have : g' = k := by simpa [Value.ownBlock] using hk
    subst this
    rw [hb] at hh
    injection hh with hh
    injection hh with h1 h2 h3
    exact ht h2
theorem own_playTy {w : World} {B n : Nat} {e : TypeId} {size : Nat} {v : Value} {xs : List Value} (h : w.ownsRow B e size v n xs) (he : e = 22 ∨ e = 39) (k : Nat) (hk : v.ownBlock = some k) : B ≤ k ∧ ∀ o, w.heap[k]? = some o → PlayTy o := by
  rcases h.2 with ⟨rfl, _⟩ | ⟨g', cap, cur, rfl, hb, hh, _⟩
  · cases hk
  · have : g' = k := by simpa [Value.ownBlock] using hk
    subst this
    refine ⟨hb, fun o ho => ?_⟩
    rw [hh] at ho
    injection ho with ho
    subst ho
    exact ⟨_, _, _, rfl, he.imp id .inl⟩
theorem own_ne_own {w : World} {B B' n m : Nat} {e t : TypeId} {size size' : Nat} {v u : Value} {xs ys : List Value} (h : w.ownsRow B e size v n xs) (h' : w.ownsRow B' t size' u m ys) (ht : t ≠ e) (k : Nat) (hk : v.ownBlock = some k) : u.ownBlock ≠ some k := by
  intro hu
  rcases h'.2 with ⟨rfl, _⟩ | ⟨g', cap, cur, rfl, _, hh, _⟩
  · cases hu
  · have : g' = k := by simpa [Value.ownBlock] using hu
    subst this
    exact own_ne_blk h (show Blk w g' t cur from hh) ht g' hk rfl
theorem frOfGrown {w w' : World} {row : Option Nat} (hg : w.grownBy w' row) : Fr row.toList w w' := (Fr.refl _ w).grown hg fun k hk => .inl (by simp [hk])
theorem lookup_drop {kn : Kn} {q : List Int} {k : Nat} {p : List Int × Int} (h : kn[k]? = some p) :
    @List.lookup (List Int) Int instBEqOfDecidableEq q (kn.drop k) = if q = p.1 then some p.2 else @List.lookup (List Int) Int instBEqOfDecidableEq q (kn.drop (k + 1)) := by
  obtain ⟨hk, rfl⟩ := List.getElem?_eq_some_iff.1 h
  rw [List.drop_eq_getElem_cons hk]
  show (match @BEq.beq (List Int) instBEqOfDecidableEq q kn[k].1 with | true => some kn[k].2 | false => @List.lookup (List Int) Int instBEqOfDecidableEq q (kn.drop (k + 1))) = _
  by_cases hq : q = kn[k].1
  · rw [if_pos hq]
    have : (@BEq.beq (List Int) instBEqOfDecidableEq q kn[k].1) = true := decide_eq_true hq
    rw [this]
  · rw [if_neg hq]
    have : (@BEq.beq (List Int) instBEqOfDecidableEq q kn[k].1) = false := decide_eq_false hq
    rw [this]

/-- What has been asked lies in the play. -/
theorem ask_fin {B bp used sc tc c c3 c5 c2 n d B2 : Nat} {A SA TA A3 A5 A2 D : Option Addr} {ans q : List Int} {kn : Kn} {rows : List Value} {a : Int} {w w1 w4 w5 : World}
    (HH : Blk w bp 108 #[.slice A ans.length c, .int .i64 used, .slice SA kn.length sc, .slice TA kn.length tc, .bool false, .slice D 0 d]) (hB : B ≤ bp) (hu : used < ans.length)
    (hr : Rd w (.int .u8) A c ans) (hna : 0 < ans.length → ∀ x, A = some x → x.block < B) (hrD : Rd w (.int .i64) D d ([] : List Int)) (hsD : Stay B w D)
    (hoS : w.ownsRow B 22 1 (.slice SA kn.length sc) kn.length rows) (hoT : w.ownsRow B 39 1 (.slice TA kn.length tc) kn.length (kn.map fun p => .int .u8 p.2))
    (hel : ∀ (k : Nat) p, kn[k]? = some p → ∃ A c, rows[k]? = some (slVal A p.1 c) ∧ Rd w (.int .i64) A c p.1 ∧ Stay B w A)
    (HF1 : Fr [bp] (w.drewN n) w1) (HF4 : Fr (bp :: ((Value.slice SA kn.length sc).ownBlock.toList ++ (Value.slice TA kn.length tc).ownBlock.toList)) w1 w4)
    (HB4 : Blk w4 bp 108 #[.slice A ans.length c, .int .i64 (used + 1 : Nat), .slice A3 (kn.length + 1) c3, .slice TA kn.length tc, .bool false, .slice D 0 d])
    (HS4 : w4.ownsRow B 22 1 (.slice A3 (kn.length + 1) c3) (kn.length + 1) (rows ++ [slVal A2 q c2])) (HT4 : w4.ownsRow B 39 1 (.slice TA kn.length tc) kn.length (kn.map fun p => .int .u8 p.2))
    (HQ4 : w4.ownsRow B2 3 1 (.slice A2 q.length c2) q.length (q.map (.int .i64)))
    (hg5 : (w4.alloc (.cells #[.int .u8 (told a)] 39)).grownBy w5 (Value.slice TA kn.length tc).ownBlock)
    (hown5 : w5.ownsRow B 39 1 (.slice A5 (kn.length + 1) c5) (kn.length + 1) ((kn.map fun p => .int .u8 p.2) ++ [.int .u8 (told a)]))
    (hat3 : (Value.slice A3 (kn.length + 1) c3).ownBlock = (Value.slice SA kn.length sc).ownBlock ∨ ∃ k, (Value.slice A3 (kn.length + 1) c3).ownBlock = some k ∧ w.heap.size ≤ k)
    (hat5 : (Value.slice A5 (kn.length + 1) c5).ownBlock = (Value.slice TA kn.length tc).ownBlock ∨ ∃ k, (Value.slice A5 (kn.length + 1) c5).ownBlock = some k ∧ w.heap.size ≤ k) (hB2 : w.heap.size ≤ B2) :
    FrP B w (w5.setCell ⟨bp, 3, none⟩ (.slice A5 (kn.length + 1) c5)) ∧ PKn B (w5.setCell ⟨bp, 3, none⟩ (.slice A5 (kn.length + 1) c5)) bp ans (used + 1) (kn ++ [(q, told a)]) false [] ∧
      Kept w (w5.setCell ⟨bp, 3, none⟩ (.slice A5 (kn.length + 1) c5)) bp ∧ KeptR w (w5.setCell ⟨bp, 3, none⟩ (.slice A5 (kn.length + 1) c5)) bp := by
  have hfT := frOfGrown hg5
  have hf5 : Fr (bp :: ((Value.slice SA kn.length sc).ownBlock.toList ++ (Value.slice TA kn.length tc).ownBlock.toList)) w4 (w5.setCell ⟨bp, 3, none⟩ (.slice A5 (kn.length + 1) c5)) :=
    (((Fr.refl _ w4).alloc _).trans (hfT.mono (by intro x hx; simp at hx; simp [hx]))).setCell (.inl (by simp)) _
  have hfa := (HF1.mono (T := bp :: ((Value.slice SA kn.length sc).ownBlock.toList ++ (Value.slice TA kn.length tc).ownBlock.toList)) (by simp)).trans (HF4.trans hf5)
  have hfp : FrP B w (w5.setCell ⟨bp, 3, none⟩ (.slice A5 (kn.length + 1) c5)) := ((FrP.refl B w).drewN n).trans (FrP.of_fr hfa (by
    intro k hk
    simp only [List.mem_cons, List.mem_append, Option.mem_toList] at hk
    rcases hk with rfl | hk | hk
    · refine ⟨hB, fun o ho => ?_⟩
      rw [show (w.drewN n).heap[k]? = _ from HH] at ho
      injection ho with ho
      subst ho
      exact ⟨_, _, _, rfl, .inr (.inr rfl)⟩
    · exact own_playTy (own_drewN hoS n) (.inl rfl) k hk
    · exact own_playTy (own_drewN hoT n) (.inr rfl) k hk))
  have hset : Fr [bp] w5 (w5.setCell ⟨bp, 3, none⟩ (.slice A5 (kn.length + 1) c5)) := (Fr.refl [bp] w5).setCell (.inl (by simp)) _
  have hS4 := HS4.alloc (.cells #[.int .u8 (told a)] 39)
  have hT4 := HT4.alloc (.cells #[.int .u8 (told a)] 39)
  have hQ4 := HQ4.alloc (.cells #[.int .u8 (told a)] 39)
  have hb4 := HB4.alloc (.cells #[.int .u8 (told a)] 39)
  have hb5 := hb4.grown hg5 (fun hk => own_ne_blk hT4 hb4 (by decide) bp hk.symm rfl)
  have hS5 := own_fr hS4 hfT (fun k hk hm => own_ne_own hS4 hT4 (by decide) k hk (by simpa using hm))
  have hQ5 := own_fr hQ4 hfT (fun k hk hm => own_ne_own hQ4 hT4 (by decide) k hk (by simpa using hm))
  have hS6 := own_fr hS5 hset (fun k hk => by simpa using own_ne_blk hS5 hb5 (by decide) k hk)
  have hT6 := own_fr hown5 hset (fun k hk => by simpa using own_ne_blk hown5 hb5 (by decide) k hk)
  have hQ6 := own_fr hQ5 hset (fun k hk => by simpa using own_ne_blk hQ5 hb5 (by decide) k hk)
  have hb6 : Blk (w5.setCell ⟨bp, 3, none⟩ (.slice A5 (kn.length + 1) c5)) bp 108 #[.slice A ans.length c, .int .i64 (used + 1 : Nat), .slice A3 (kn ++ [(q, told a)]).length c3, .slice A5 (kn ++ [(q, told a)]).length c5, .bool false, .slice D ([] : List Int).length d] := by
    have := hb5.set_ 3 (.slice A5 (kn.length + 1) c5)
    simpa using this
  refine ⟨hfp, ?_, (Kept.drewN w bp n).trans (Kept.of (HH.drewN n) hfa hb6 (by simpa using hat3) (by simpa using hat5)), fun g hg h => RowsOff.of hb6 (by simpa using hS6) fun k a n' c' hk => ?_⟩
  rotate_left
  · have hrl : rows.length = kn.length := by have := hoS.1; omega
    by_cases hkl : k < rows.length
    · rw [List.getElem?_append_left hkl] at hk
      exact h.at_rows HH hoS k a n' c' hk
    · have hke := (List.getElem?_eq_some_iff.1 hk).1
      simp at hke
      obtain rfl : k = rows.length := by omega
      simp [slVal] at hk
      obtain ⟨rfl, _, _⟩ := hk
      have := (HQ4.lt a.block rfl).1
      omega
  refine ⟨⟨A, c, .slice A3 (kn ++ [(q, told a)]).length c3, .slice A5 (kn ++ [(q, told a)]).length c5, D, d, rows ++ [slVal A2 q c2], hb6, FrP.below hr hna hfp, hna, hrD.frp hsD hfp, hsD.frp hfp, ?_, ?_, fun k p hp => ?_⟩, hB, hu⟩
  · simpa using hS6
  · simpa using hT6
  · have hrl : rows.length = kn.length := by have := hoS.1; omega
    by_cases hk : k < kn.length
    · rw [List.getElem?_append_left hk] at hp
      obtain ⟨A', c', h1, h2, h3⟩ := hel k p hp
      exact ⟨A', c', by rw [List.getElem?_append_left (by omega)]; exact h1, h2.frp h3 hfp, h3.frp hfp⟩
    · have hke : k = kn.length := by
        have := (List.getElem?_eq_some_iff.1 hp).1
        simp at this
        omega
      subst hke
      simp at hp
      subst hp
      exact ⟨A2, c2, by rw [← hrl]; simp, own_rd hQ6 rfl rfl, Stay.own hQ6⟩

/-- The play's cell of what was said, behind the append. -/
theorem ask_cell {B bp n : Nat} {w4 w5 : World} {v x0 x1 x2 x4 x5 : Value} {a : Int} {xs : List Value}
    (hb : Blk w4 bp 108 #[x0, x1, x2, v, x4, x5]) (hT : w4.ownsRow B 39 1 v n xs) (hg : (w4.alloc (.cells #[.int .u8 a] 39)).grownBy w5 v.ownBlock) :
    w5.cell? ⟨bp, 3, none⟩ = some v ∧ w5.frozen? ⟨bp, 3, none⟩ = false := by
  have hT4 := hT.alloc (.cells #[.int .u8 a] 39)
  have hb4 := hb.alloc (.cells #[.int .u8 a] 39)
  have hb5 := hb4.grown hg (fun hk => own_ne_blk hT4 hb4 (by decide) bp hk.symm rfl)
  exact ⟨hb5.cell 3 rfl, hb5.frozen 3⟩
end Go.Proofs.YtjpbmbonccenfaaDoor

/- The reference's ask: each set once; the walk. -/
namespace Go.Proofs.YtjpbmbonccenfaaDoor
open Go.RowKit
set_option linter.unusedVariables false

set_option maxHeartbeats 1600000 in
theorem ask_off (B bp : Nat) (ans : List Int) (used : Nat) (kn : Kn) (C : Option Addr) (cc : Nat) (q : List Int) (w : World) (h : PKn B w bp ans used kn false []) (hC : Rd w (.int .i64) C cc q) (hCs : Stay B w C) (hlen : q.length ≤ 1000000) (hkn : kn.length ≤ 1000000) :
    Calls Tryd.prog 77 #[.pointer (some ⟨bp, 0, none⟩), .slice C q.length cc] w (fun e w' => AskPost B w bp ans used kn q e w' ∧ Kept w w' bp ∧ KeptR w w' bp) := by
  obtain ⟨A, c, S, T, D, d, rows, hh, hr, hna, hrD, hsD, hoS, hoT, hel⟩ := h.ex
  obtain ⟨SA, sc, rfl⟩ := own_form hoS
  obtain ⟨TA, tc, rfl⟩ := own_form hoT
  have hbS := (Rd.of_own (enc := fun v => v) (xs := rows) (by simpa using hoS)).2
  have c2 := hh.cell 2 rfl
  have c3 := hh.cell 3 rfl
  have HH := Lib.hid hh
  have hlt := hh.lt
  have hkb : (kn.length : Int) ≤ 9223372036854775807 := by omega
  clear hh
  go_enter Tryd.func77, Tryd.ntmps77
  go_wp2
  go_loopw [5] (fun i wr => ∃ k : Nat, k ≤ kn.length ∧ i = .int .i64 k ∧ Hid (@List.lookup (List Int) Int instBEqOfDecidableEq q (kn.drop k) = @List.lookup (List Int) Int instBEqOfDecidableEq q kn) ∧ ∃ n, wr = w.drewN n) (fun i _ => kn.length - (intOf i).toNat)
  case atStart => exact ⟨0, Nat.zero_le _, rfl, rfl, 0, rfl⟩
  case round =>
    obtain ⟨k, hk, rfl, HL, n, rfl⟩ := hrel
    by_cases hlt : k < kn.length
    · obtain ⟨p, hp⟩ : ∃ p, kn[k]? = some p := ⟨kn[k], List.getElem?_eq_getElem hlt⟩
      obtain ⟨A1, c1, hrow, hr1, hs1⟩ := hel k p hp
      obtain ⟨g1, rfl, _, _⟩ := own_some hoS (by omega)
      obtain ⟨g2, rfl, _, _⟩ := own_some hoT (by omega)
      have d1 := (hoS.cellAt k (by omega)).trans hrow
      have d2 := (hoT.cellAt k (by omega)).trans (by rw [List.getElem?_map, hp])
      unfold slVal at d1
      have hst := lookup_drop (q := q) hp
      rw [HL.out] at hst
      have HP := Lib.hid hp
      clear hp hrow
      by_cases he : q = p.1
      · rw [if_pos he] at hst
        have hd : decide (p.1 = q) = true := by simpa using he.symm
        have HS := Lib.hid hst
        clear he hst
        go_wp2_with (go_at_call 62; refine (Ints_any A1 C c1 cc p.1 q _ (hr1.drewN _) (hC.drewN _)).mono ?_; rintro e w' ⟨rfl, n1, rfl⟩)
        go_ret
        unfold AskPost
        rw [askV_known HS.out]
        exact ⟨⟨rfl, (FrP.refl _ _).drewN _, h.fr0 (by repeat (first | exact Fr.refl _ _ | assumption | apply Fr.drewN | apply Fr.drew | apply Fr.alloc | refine Fr.setCell ?_ (by simp) _))⟩, Kept.fr0 (by repeat (first | exact Fr.refl _ _ | assumption | apply Fr.drewN | apply Fr.drew | apply Fr.alloc | refine Fr.setCell ?_ (by simp) _)), fun _ _ h => h⟩
      · rw [if_neg he] at hst
        have hd : decide (p.1 = q) = false := by simpa using fun h => he h.symm
        have HS := Lib.hid hst
        clear he hst
        go_wp2_with (go_at_call 62; refine (Ints_any A1 C c1 cc p.1 q _ (hr1.drewN _) (hC.drewN _)).mono ?_; rintro e w' ⟨rfl, n1, rfl⟩)
        go_roundw
        case rel => exact ⟨k + 1, by omega, by go_num, HS.out.symm, _, by first | rfl | exact World.drewN_drewN ..⟩
        case measure => simp [intOf]; omega
    · have hnone : @List.lookup (List Int) Int instBEqOfDecidableEq q kn = none := by
        rw [← HL.out, List.drop_of_length_le (by omega)]
        rfl
      have HN := Lib.hid hnone
      clear hnone hbS
      rcases hans : ans[used]? with _ | a
      · have hu : ans.length ≤ used := List.getElem?_eq_none_iff.1 hans
        have HA := Lib.hid hans
        clear hans
        have hCb : 0 < q.length → ∀ x, C = some x → x.block ≠ bp := fun h0 x hx hb => by
          rcases hCs x hx with h1 | ⟨cs, fz, h1⟩
          · have := h.base; omega
          · rw [hb, HH.out] at h1
            injection h1 with h1
            injection h1 with _ h1
            revert h1
            decide
        have hbd := hr.bound
        go_wp2_with fail
        refine (next2_none bp A c ans used _ _ D d C cc q _ (HH.out.drewN _) hbd hu (hC.drewN _) hlen hCb).mono ?_
        rintro e w1 ⟨rfl, hf1, D1, d1, hb1, ho1⟩
        have e4 := hb1.cell 4 rfl
        go_wp2
        go_ret
        unfold AskPost
        rw [askV_ask HN.out HA.out]
        have hfp : FrP B w w1 := ((FrP.refl B w).drewN n).trans (FrP.of_fr hf1 (by
          intro k hk
          obtain rfl : k = bp := by simpa using hk
          refine ⟨h.base, fun o ho => ?_⟩
          rw [show (w.drewN n).heap[k]? = _ from HH.out] at ho
          injection ho with ho
          subst ho
          exact ⟨_, _, _, rfl, .inr (.inr rfl)⟩))
        refine ⟨?_, (Kept.drewN w bp n).trans (Kept.of (HH.out.drewN n) (hf1.mono (by simp)) hb1 (.inl rfl) (.inl rfl)), KeptR.fr HH.out hoS hb1 (own_fr (own_drewN hoS n) hf1 (fun k hk => by simpa using own_ne_blk hoS HH.out (by decide) k hk))⟩
        refine ⟨rfl, hfp, ⟨A, c, _, _, D1, d1, rows, hb1, FrP.below hr hna hfp, hna, own_rd ho1 rfl rfl, Stay.own ho1, own_fr (own_drewN hoS n) hf1 (fun k hk => by simpa using own_ne_blk hoS HH.out (by decide) k hk), own_fr (own_drewN hoT n) hf1 (fun k hk => by simpa using own_ne_blk hoT HH.out (by decide) k hk), fun k p hp => ?_⟩, h.base, h.le⟩
        obtain ⟨A3, c3, h1, h2, h3⟩ := hel k p hp
        exact ⟨A3, c3, h1, h2.frp h3 hfp, h3.frp hfp⟩
      · have hu : used < ans.length := (List.getElem?_eq_some_iff.1 hans).1
        have HA := Lib.hid hans
        clear hans
        go_wp2_with fail
        refine (next2_some bp A c ans used _ _ D d _ a _ (HH.out.drewN _) (hr.drewN _) (fun h0 x hx => by have := hna h0 x hx; have := h.base; omega) HA.out).mono ?_
        rintro e w1 ⟨rfl, hf1, hb1⟩
        have e4 := hb1.cell 4 rfl
        have e2 := hb1.cell 2 rfl
        have e3 := hb1.cell 3 rfl
        have e2a := (hb1.alloc (.cells #[] 3)).cell 2 rfl
        have hS1 := own_fr (own_drewN hoS n) hf1 (fun k hk => by simpa using own_ne_blk hoS HH.out (by decide) k hk)
        have hT1 := own_fr (own_drewN hoT n) hf1 (fun k hk => by simpa using own_ne_blk hoT HH.out (by decide) k hk)
        have hCf : 0 < q.length → ∀ x, C = some x → x.block ≠ bp := fun h0 x hx hb => by
          rcases hCs x hx with h1 | ⟨cs, fz, h1⟩
          · have := h.base; omega
          · rw [hb, HH.out] at h1
            injection h1 with h1
            injection h1 with _ h1
            revert h1
            decide
        have hC1 := (hC.drewN n).fr hf1 (fun h0 x hx => by simpa using hCf h0 x hx)
        have hB1 : B ≤ w1.heap.size := Nat.le_of_lt (Nat.lt_of_le_of_lt h.base hb1.lt)
        go_wp2
        go_region_law (first
          | (refine step_append_rd rfl (.tmp 45) (.tmp 46) _ rfl elemInts (.slice (some ⟨w1.heap.size, 0, none⟩) 0 0) _ rfl (own_empty _ _ w1.heap.size (by simp)) C cc q (.int .i64) rfl ((hC1.drew).alloc _) one_i64 (by omega) (by simp) ?_
             intro A2 c2' w2 hown2 hg2 hat2
             have hf12 : Fr [] w1 w2 := (((Fr.refl [] w1).drew).alloc _).app (own_empty _ _ w1.heap.size (by simp)) (Nat.le_refl _) hg2
             have g2 := (hb1.fr hf12 (by simp)).cell 2 rfl
             have g2b := ((hb1.fr hf12 (by simp)).alloc (.cells #[.slice A2 q.length c2'] 22)).cell 2 rfl)
          | (refine step_append_rd rfl (.tmp 44) (.tmp 48) _ rfl elemSl (.slice SA kn.length sc) rows rfl ((own_fr hS1 hf12 (by simp)).alloc _) (some ⟨w2.heap.size, 0, none⟩) 1 [(A2, q.length, c2')] encSl rfl (Rd.one w2 22 encSl (A2, q.length, c2')) (fun _ => rfl) (by simp; omega) (Nat.le_trans (Nat.le_trans hB1 hf12.size) (by simp)) ?_
             intro A3 c3' w3 hown3 hg3 hat3
             have hb3 := ((hb1.fr hf12 (by simp)).alloc (.cells #[.slice A2 q.length c2'] 22)).grown hg3 (fun hk => own_ne_blk hS1 hb1 (by decide) bp hk.symm rfl)
             have g3 := hb3.cell 2 rfl
             have g3f := hb3.frozen 2))
        all_goals
          have hT2 := (own_fr hT1 hf12 (by simp)).alloc (.cells #[.slice A2 q.length c2'] 22)
          have hS2 := (own_fr hS1 hf12 (by simp)).alloc (.cells #[.slice A2 q.length c2'] 22)
          have hT3 := own_fr hT2 (frOfGrown hg3) (fun k hk hm => own_ne_own hT2 hS2 (by decide) k hk (by simpa using hm))
          have hset : Fr [bp] w3 (w3.setCell ⟨bp, 2, none⟩ (.slice A3 (kn.length + 1) c3')) := (Fr.refl [bp] w3).setCell (.inl (by simp)) _
          have hS4 := own_fr hown3 hset (fun k hk => by simpa using own_ne_blk hown3 hb3 (by decide) k hk)
          have hT4 := own_fr hT3 hset (fun k hk => by simpa using own_ne_blk hT3 hb3 (by decide) k hk)
          have hb4 := hb3.set_ 2 (.slice A3 (kn.length + 1) c3')
          have hF4 : Fr (bp :: ((Value.slice SA kn.length sc).ownBlock.toList ++ (Value.slice TA kn.length tc).ownBlock.toList)) w1 (w3.setCell ⟨bp, 2, none⟩ (.slice A3 (kn.length + 1) c3')) :=
            (((hf12.mono (by simp)).alloc _).grown hg3 (fun k hk => .inl (by simp [hk]))).setCell (.inl (by simp)) _
          have hq4 := own_fr hown2 ((((Fr.refl _ w2).alloc (.cells #[.slice A2 q.length c2'] 22)).trans (frOfGrown hg3)).trans0 (Fr.refl [] _)) (fun k hk hm => own_ne_own (hown2.alloc (.cells #[.slice A2 q.length c2'] 22)) hS2 (by decide) k hk (by simpa using hm))
          have hq5 := own_fr hq4 hset (fun k hk => by simpa using own_ne_blk hq4 hb3 (by decide) k hk)
          have hB4 := Nat.le_trans hB1 hF4.size
          have HZ1 : Hid (w.heap.size ≤ w1.heap.size) := hf1.size
          have HAT3 : Hid ((Value.slice A3 (kn.length + 1) c3').ownBlock = (Value.slice SA kn.length sc).ownBlock ∨ ∃ k, (Value.slice A3 (kn.length + 1) c3').ownBlock = some k ∧ w.heap.size ≤ k) := hat3.imp id fun h => ⟨_, h, by have h1 := hf1.size; have h2 := hf12.size; simp at h1 ⊢; omega⟩
          have hz4 : w.heap.size ≤ (w3.setCell ⟨bp, 2, none⟩ (.slice A3 (kn.length + 1) c3')).heap.size := by have h1 := hf1.size; have h2 := hF4.size; simp at h1 h2 ⊢; omega
          have HB4 := Lib.hid hb4
          have HF4 := Lib.hid hF4
          have HT4 := Lib.hid hT4
          have HS4 := Lib.hid hS4
          have HQ5 := Lib.hid hq5
          have HF1 := Lib.hid hf1
          have HOS := Lib.hid hoS
          have HOT := Lib.hid hoT
          have HEL := Lib.hid hel
          have HR := Lib.hid (And.intro hr hna)
          have HD := Lib.hid (And.intro hrD hsD)
          clear hset hq4 hT3 hT2 hS2 hown3 hown2 hg3 hat3 hat2 hg2 g3 g3f g2 g2b e2 e2a hb3 hb4 hF4 hT4 hS4 hq5 hf1 hf12 hC1 hS1 hT1 e4 e3 hb1 hel hr hna hrD hsD hoS hoT
          generalize w3.setCell ⟨bp, 2, none⟩ (.slice A3 (kn.length + 1) c3') = w4 at *
          have m3 : w4.cell? ⟨bp, 3, none⟩ = some (.slice TA kn.length tc) := HB4.out.cell 3 (by simp)
          have HA4 := Lib.hid (HT4.out.alloc (.cells #[.int .u8 (told a)] 39))
          have HR4 := Lib.hid (Rd.one w4 39 (.int .u8) (told a))
          have hbB : (kn.length + [told a].length) * 1 ≤ 140737488355328 := by simp; omega
          have hbW : B ≤ (w4.alloc (.cells #[.int .u8 (told a)] 39)).heap.size := Nat.le_trans hB4 (by simp)
          go_wp2_with (at_builtin; refine wpList_append_rd rfl (.tmp 56) (.tmp 58) _ rfl elemVe (.slice TA kn.length tc) (kn.map fun p => .int .u8 p.2) rfl HA4.out (some ⟨w4.heap.size, 0, none⟩) 1 [told a] (.int .u8) rfl HR4.out one_u8 hbB hbW ?_; intro A5 c5' w5 hown5 hg5 hat5; obtain ⟨m5, m5f⟩ := ask_cell (by simpa using HB4.out) HT4.out hg5; have HG5 := Lib.hid hg5; have HO5 := Lib.hid hown5; have HAT5 := Lib.hid hat5; clear hg5 hown5 hat5)
          go_ret
          unfold AskPost
          rw [askV_got HN.out HA.out]
          have hfin := ask_fin HH.out h.base hu HR.out.1 HR.out.2 HD.out.1 HD.out.2 HOS.out HOT.out HEL.out HF1.out HF4.out (by simpa using HB4.out) (by simpa [encSl, slVal] using HS4.out) HT4.out (by simpa using HQ5.out) HG5.out (by simpa using HO5.out) HAT3.out (HAT5.out.imp id fun h => ⟨_, h, by simp; omega⟩) HZ1.out
          exact ⟨⟨rfl, hfin.1, hfin.2.1⟩, hfin.2.2⟩
theorem ask_any (B bp : Nat) (ans : List Int) (used : Nat) (kn : Kn) (C : Option Addr) (cc : Nat) (q : List Int) (w : World) (h : PKn B w bp ans used kn false []) (hC : Rd w (.int .i64) C cc q) (hCs : Stay B w C) (hlen : q.length ≤ 1000000) (hkn : kn.length ≤ 1000000) :
    Calls Tryd.prog 77 #[.pointer (some ⟨bp, 0, none⟩), .slice C q.length cc] w (AskPost B w bp ans used kn q) :=
  (ask_off B bp ans used kn C cc q w h hC hCs hlen hkn).mono fun _ _ h => h.1
end Go.Proofs.YtjpbmbonccenfaaDoor
